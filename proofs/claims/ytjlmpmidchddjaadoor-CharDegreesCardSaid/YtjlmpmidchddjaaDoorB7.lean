/-
  Texts of this proof, one behind the other: what each says stands at its head. Conditions: none.
-/
import Derived.Test.YtjlmpmidchddjaaDoorB6
import Derived.Test.YtjlmpmidchddjaaDoorB5
import Derived.Test.YtjlmpmidchddjaaDoorB3
import Derived.Test.YtjlmpmidchddjaaDoorB4
import Derived.Test.YtjlmpmidchddjaaDoorRows
import Derived.Test.YtjlmpmidchddjaaDoorB2
import Derived.ProofKit
import Derived.LaidMore
import Derived.OpenShut
import Derived.Stop.Joined
set_option linter.all false
namespace Go.Proofs.YtjlmpmidchddjaaDoor
open Lean.Grind
attribute [local instance] Lean.Grind.Semiring.natCast Lean.Grind.Ring.intCast
variable {n e:Nat} {m:List Int}
theorem GB (h:GT n m n e) {p:Nat} [NeZero p] (P:PG p) (hd:∀ d,1≤d→d≤60→d ∣ p - 1) (hb:2 ^ 200 < p) (hw:∀ d,2≤d→d≤60→Hw p d) :
  ∃ (tt:Nat→Nat→Fin p) (vv:Nat→Nat),eu (Fin p) n (op m n) e (aZ m n e) (bW m n e) tt vv:=by
 have hn:=h.2.1.big
 have G:=h.2.2
 have h200:120 < 2 ^ 200:=by decide
 have H:=DE h P (by omega) fun a ha=>by
  obtain ⟨o1,o2,_,_⟩:=G.jk ha
  have h1:=(G.mz ha (p - 1)).2 (hd _ o1 (by omega))
  have e1:p=p - 1 + 1:=by omega
  rw [e1]
  show op m n (pw (op m n) e a (p - 1)) a=a
  rw [h1,G.one_l a ha]
 exact H.Jj (fun a=>uV a) (fun d d1 d2=>hw d d1 (by omega)) (by omega)
def cL (d:Nat):Nat:=176400 / (d * d)
theorem zK {d:Nat} (h1:1≤d) (h2:d≤7):cL d * (d * d)=176400:=by
 have:d=1∨d=2∨d=3∨d=4∨d=5∨d=6∨d=7:=by omega
 rcases this with rfl | rfl | rfl | rfl | rfl | rfl | rfl<;>decide
theorem wa {v n:Nat} (h:v * v≤n) (hn:n≤60):v≤7:=by
 refine Nat.le_of_not_lt fun hc=>?_
 have:8 * 8≤v * v:=Nat.mul_le_mul hc hc
 omega
section
variable {K:Type} [CommRing K] {p:Nat}
theorem eu.ints {c:Nat} {cI xx:Nat→Nat} {f:Nat→Nat→Nat} (h:GC n f e c cI xx) (R:Rp K p) (hn0:(n:K) ≠ 0) (hn:n≤60) (hb:2 ^ 200 < p) {tt:Nat→Nat→K} {vv:Nat→Nat} (A:eu K n f e c cI tt vv) {k:Nat} (hk:k≤6) :
  176400 ^ k * (n * zN n f e k e)=sn (fun i=>vv i * vv i * (n * n * cL (vv i)) ^ k) c:=by
 have F:=R.fld
 have hnn:n * n≤3600:=Nat.mul_le_mul hn hn
 have b1:176400 ^ k * (n * zN n f e k e)≤176400 ^ 6 * (60 * 3600 ^ 6):=by
  refine Nat.mul_le_mul (Nat.pow_le_pow_right (by decide) hk) (Nat.mul_le_mul hn ?_)
  exact Nat.le_trans (ES n f e k e) (Nat.le_trans (Nat.pow_le_pow_left hnn k) (Nat.pow_le_pow_right (by decide) hk))
 have b2:sn (fun i=>vv i * vv i * (n * n * cL (vv i)) ^ k) c≤n * (3600 * 176400) ^ 6:=by
  have e0:n * (3600 * 176400) ^ 6=sn (fun i=>vv i * vv i * (3600 * 176400) ^ 6) c:=by rw [oD,A.sum]
  rw [e0]
  refine Fk fun i hi=>Nat.mul_le_mul_left _ ?_
  refine Nat.le_trans (Nat.pow_le_pow_left (Nat.mul_le_mul hnn (Nat.div_le_self _ _)) k) (Nat.pow_le_pow_right (by decide) hk)
 have b3:n * (3600 * 176400) ^ 6≤60 * (3600 * 176400) ^ 6:=Nat.mul_le_mul_right _ hn
 have c1:176400 ^ 6 * (60 * 3600 ^ 6) < 2 ^ 200:=by decide
 have c2:60 * (3600 * 176400) ^ 6 < 2 ^ 200:=by decide
 refine R.gW (p:=p) (Nat.lt_of_le_of_lt b1 (Nat.lt_trans c1 hb)) (Nat.lt_of_le_of_lt b2 (Nat.lt_of_le_of_lt b3 (Nat.lt_trans c2 hb))) ?_
 rw [Semiring.natCast_mul,Semiring.natCast_mul,A.bk h F hn0 k,ri,← aN]
 refine al fun i hi=>?_
 obtain ⟨v1,v2⟩:=A.sq i hi
 have hv:=wa v1 hn
 have hc:=zK (A.ge i hi) hv
 have hcK:((cL (vv i):Nat):K) * ((vv i:K) * vv i)=((176400:Nat):K):=by rw [← Semiring.natCast_mul,← Semiring.natCast_mul,hc]
 rw [Semiring.natCast_mul,Semiring.natCast_mul,Semiring.natCast_pow,Semiring.natCast_pow,Semiring.natCast_mul,Semiring.natCast_mul]
 have e1:((176400:Nat):K) * ((n:K) * bT n f e (tt i) (tt i) e)=(n:K) * n * ((cL (vv i):Nat):K):=by
  rw [← hcK]
  have:(cL (vv i):K) * ((vv i:K) * vv i) * ((n:K) * bT n f e (tt i) (tt i) e)=(n:K) * (cL (vv i):K) * (bT n f e (tt i) (tt i) e * ((vv i:K) * vv i)):=by grind
  rw [this,v2]; grind
 have e2:∀ (x y z:K) (k:Nat),x ^ k * (z * y ^ k)=z * (x * y) ^ k:=fun x y z k=>by
  induction k with
  | zero=>rw [Semiring.pow_zero,Semiring.pow_zero,Semiring.pow_zero]; grind
  | succ k ih=>rw [Semiring.pow_succ,Semiring.pow_succ,Semiring.pow_succ]; grind
 rw [e2,e1]
end
def Ch (n k a1 a2 a3 a4 a5 a6 a7:Nat):Nat:=a1 * (1 * 1 * (n * n * cL 1) ^ k) + a2 * (2 * 2 * (n * n * cL 2) ^ k) + a3 * (3 * 3 * (n * n * cL 3) ^ k) + a4 * (4 * 4 * (n * n * cL 4) ^ k) + a5 * (5 * 5 * (n * n * cL 5) ^ k) + a6 * (6 * 6 * (n * n * cL 6) ^ k) + a7 * (7 * 7 * (n * n * cL 7) ^ k)
def JD (n a1 a2 a3 a4 a5 a6 a7:Nat):Bool:=
 !decide (Ch n 1 a1 a2 a3 a4 a5 a6 a7 % (176400 ^ 1 * n)=0) || !decide (Ch n 2 a1 a2 a3 a4 a5 a6 a7 % (176400 ^ 2 * n)=0) || !decide (Ch n 3 a1 a2 a3 a4 a5 a6 a7 % (176400 ^ 3 * n)=0) ||
 ((decide (a2=0) || decide (n % 2=0)) && (decide (a3=0) || decide (n % 3=0)) && (decide (a4=0) || decide (n % 4=0)) && (decide (a5=0) || decide (n % 5=0)) && (decide (a6=0) || decide (n % 6=0)) && (decide (a7=0) || decide (n % 7=0)))
def Ij:Bool:=(List.range 61).all fun n=>(List.range (n / 49 + 1)).all fun a7=>(List.range ((n - 49 * a7) / 36 + 1)).all fun a6=>(List.range ((n - 49 * a7 - 36 * a6) / 25 + 1)).all fun a5=>(List.range ((n - 49 * a7 - 36 * a6 - 25 * a5) / 16 + 1)).all fun a4 =>
 (List.range ((n - 49 * a7 - 36 * a6 - 25 * a5 - 16 * a4) / 9 + 1)).all fun a3=>(List.range ((n - 49 * a7 - 36 * a6 - 25 * a5 - 16 * a4 - 9 * a3) / 4 + 1)).all fun a2=>JD n (n - 49 * a7 - 36 * a6 - 25 * a5 - 16 * a4 - 9 * a3 - 4 * a2) a2 a3 a4 a5 a6 a7
theorem FB:Ij=true:=by decide +kernel
theorem Gv {n a1 a2 a3 a4 a5 a6 a7:Nat} (hn:n≤60) (hs:a1 + 4 * a2 + 9 * a3 + 16 * a4 + 25 * a5 + 36 * a6 + 49 * a7=n):JD n a1 a2 a3 a4 a5 a6 a7=true:=by
 have h:=FB
 unfold Ij at h
 have h:=List.all_eq_true.1 h n (List.mem_range.2 (by omega))
 have h:=List.all_eq_true.1 h a7 (List.mem_range.2 (by omega))
 have h:=List.all_eq_true.1 h a6 (List.mem_range.2 (by omega))
 have h:=List.all_eq_true.1 h a5 (List.mem_range.2 (by omega))
 have h:=List.all_eq_true.1 h a4 (List.mem_range.2 (by omega))
 have h:=List.all_eq_true.1 h a3 (List.mem_range.2 (by omega))
 have h:=List.all_eq_true.1 h a2 (List.mem_range.2 (by omega))
 have e:n - 49 * a7 - 36 * a6 - 25 * a5 - 16 * a4 - 9 * a3 - 4 * a2=a1:=by omega
 rwa [e] at h
theorem JX (g:Nat→Nat) (h0:g 0=0):sn g 8=g 1 + g 2 + g 3 + g 4 + g 5 + g 6 + g 7:=by
 show 0 + g 0 + g 1 + g 2 + g 3 + g 4 + g 5 + g 6 + g 7=_
 omega
section
variable {c:Nat} {cI xx:Nat→Nat} {f:Nat→Nat→Nat} {K:Type} [CommRing K] {p:Nat}
theorem eu.JV (hn:n≤60) {tt:Nat→Nat→K} {vv:Nat→Nat} (A:eu K n f e c cI tt vv) {i:Nat} (hi:i < c):vv i < 8:=by
 have:=wa (A.sq i hi).1 hn; omega
theorem eu.Kc {tt:Nat→Nat→K} {vv:Nat→Nat} (A:eu K n f e c cI tt vv):cn vv c 0=0:=by
 refine Nat.eq_zero_of_le_zero (Nat.le_of_not_lt fun h=>?_)
 obtain ⟨i,hi,e1⟩:=pa h
 have:=A.ge i hi
 omega
theorem eu.dvd (h:GC n f e c cI xx) (R:Rp K p) (hn0:(n:K) ≠ 0) (hn1:1≤n) (hn:n≤60) (hb:2 ^ 200 < p) {tt:Nat→Nat→K} {vv:Nat→Nat} (A:eu K n f e c cI tt vv) {i:Nat} (hi:i < c):vv i ∣ n:=by
 have hlt:∀ i,i < c→vv i < 8:=fun i hi=>A.JV hn hi
 have h0:=A.Kc
 have hs:=wk hlt fun d=>d * d
 rw [A.sum,JX _ (by rw [h0,Nat.zero_mul])] at hs
 have hT:=Gv (n:=n) (a1:=cn vv c 1) (a2:=cn vv c 2) (a3:=cn vv c 3) (a4:=cn vv c 4) (a5:=cn vv c 5) (a6:=cn vv c 6) (a7:=cn vv c 7) hn (by omega)
 have hk:∀ k,k≤6→Ch n k (cn vv c 1) (cn vv c 2) (cn vv c 3) (cn vv c 4) (cn vv c 5) (cn vv c 6) (cn vv c 7) % (176400 ^ k * n)=0:=fun k hk=>by
  have h1:=A.ints h R hn0 hn hb hk
  rw [wk hlt fun d=>d * d * (n * n * cL d) ^ k,JX _ (by rw [h0,Nat.zero_mul])] at h1
  have h2:Ch n k (cn vv c 1) (cn vv c 2) (cn vv c 3) (cn vv c 4) (cn vv c 5) (cn vv c 6) (cn vv c 7)=176400 ^ k * (n * zN n f e k e):=h1.symm
  rw [h2,← Nat.mul_assoc]
  exact Nat.mul_mod_right _ _
 unfold JD at hT
 rw [hk 1 (by omega),hk 2 (by omega),hk 3 (by omega)] at hT
 simp only [decide_true,Bool.not_true,Bool.false_or,Bool.and_eq_true,Bool.or_eq_true,decide_eq_true_eq] at hT
 obtain ⟨⟨⟨⟨⟨g2,g3⟩,g4⟩,g5⟩,g6⟩,g7⟩:=hT
 have hp:=vR (vv:=vv) hi
 have h8:=hlt i hi
 have h1:=A.ge i hi
 generalize hv:vv i=v at *
 have:v=1∨v=2∨v=3∨v=4∨v=5∨v=6∨v=7:=by omega
 refine Nat.dvd_of_mod_eq_zero ?_
 rcases this with rfl | rfl | rfl | rfl | rfl | rfl | rfl
 ·exact Nat.mod_one n
 ·exact g2.resolve_left (by omega)
 ·exact g3.resolve_left (by omega)
 ·exact g4.resolve_left (by omega)
 ·exact g5.resolve_left (by omega)
 ·exact g6.resolve_left (by omega)
 exact g7.resolve_left (by omega)
theorem eu.count (h:GC n f e c cI xx) (R:Rp K p) (hn0:(n:K) ≠ 0) (hn1:1≤n) (hn:n≤60) (hb:2 ^ 200 < p) {tt:Nat→Nat→K} {vv:Nat→Nat} (A:eu K n f e c cI tt vv) {k:Nat} (hk:k≤6) :
  n * zN n f e k e=sn (fun d=>cn vv c d * (d * d * ((n / d) * (n / d)) ^ k)) 8:=by
 have hlt:∀ i,i < c→vv i < 8:=fun i hi=>A.JV hn hi
 have h1:=A.ints h R hn0 hn hb hk
 rw [wk hlt fun d=>d * d * (n * n * cL d) ^ k] at h1
 have h2:sn (fun d=>cn vv c d * (d * d * (n * n * cL d) ^ k)) 8=sn (fun d=>cn vv c d * (d * d * ((n / d) * (n / d)) ^ k)) 8 * 176400 ^ k:=by
  rw [← oD]
  refine jl fun d hd=>?_
  by_cases h0:cn vv c d=0
  ·rw [h0]; simp
  obtain ⟨i,hi,e1⟩:=pa (vv:=vv) (c:=c) (d:=d) (by omega)
  have hdv:=A.dvd h R hn0 hn1 hn hb hi
  have hge:=A.ge i hi
  rw [e1] at hdv hge
  have hc:=zK hge (by omega)
  obtain ⟨q,hq⟩:=hdv
  have hnd:n / d=q:=by rw [hq,Nat.mul_div_cancel_left _ (by omega)]
  have e3:n * n * cL d=q * q * 176400:=by
   rw [hq,← hc]
   simp only [Nat.mul_assoc,Nat.mul_comm,Nat.mul_left_comm]
  rw [hnd,e3,Nat.mul_pow]
  simp only [Nat.mul_assoc]
 rw [h2,Nat.mul_comm] at h1
 exact Nat.eq_of_mul_eq_mul_right (Nat.pow_pos (by decide)) h1
end
theorem eu.same {c c' : Nat} {cI xx cI' xx' : Nat→Nat} {f:Nat→Nat→Nat} {K K' : Type} [CommRing K] [CommRing K'] {p p' : Nat} (h:GC n f e c cI xx) (h' : GC n f e c' cI' xx') (R:Rp K p) (R' : Rp K' p') (h2n:2 * n < p) (hcz:∀ a:Nat,0 < a→a < p→(a:K) ≠ 0) (hn0' : (n:K') ≠ 0) (hn1:1≤n) (hn:n≤60) (hb:2 ^ 200 < p') (hcn:c≤n) (hcn' : c'≤n)
  {tt:Nat→Nat→K} {vv:Nat→Nat} (A:eu K n f e c cI tt vv) {tt' : Nat→Nat→K'} {vv' : Nat→Nat} (A' : eu K' n f e c' cI' tt' vv'):∀ d,cn vv c d=cn vv' c' d:=by
 have F:=R.fld
 have hn0:(n:K) ≠ 0:=hcz n hn1 (by omega)
 obtain ⟨s,s1,s2⟩:∃ s,s * s≤n∧n < (s + 1) * (s + 1):=by
  have:∀ m,m≤n→∃ s,s * s≤m∧m < (s + 1) * (s + 1):=fun m=>by
   induction m with
   | zero=>intro _; exact ⟨0,by omega,by omega⟩
   | succ m ih =>
    intro hm
    obtain ⟨s,a,b⟩:=ih (by omega)
    by_cases hc:m + 1 < (s + 1) * (s + 1)
    ·exact ⟨s,by omega,hc⟩
    refine ⟨s + 1,by omega,?_⟩
    have:(s + 1 + 1) * (s + 1 + 1)=(s + 1) * (s + 1) + 2 * (s + 1) + 1:=by rw [Nat.add_mul,Nat.mul_add]; omega
    omega
  exact this n (Nat.le_refl _)
 have s7:=wa s1 hn
 have hsn:s≤n:=by
  by_cases h0:s=0
  ·omega
  exact Nat.le_trans (Nat.le_mul_of_pos_left s (by omega)) s1
 have hbig:∀ v,v * v≤n→v≤s:=fun v hv=>by
  refine Nat.le_of_not_lt fun hc=>?_
  have:(s + 1) * (s + 1)≤v * v:=Nat.mul_le_mul hc hc
  omega
 have hz:∀ d,¬ (1≤d∧d≤s)→cn vv c d=0:=fun d hd=>by
  refine Nat.eq_zero_of_le_zero (Nat.le_of_not_lt fun h=>?_)
  obtain ⟨i,hi,e1⟩:=pa h
  exact hd ⟨by rw [← e1]; exact A.ge i hi,by rw [← e1]; exact hbig _ (A.sq i hi).1⟩
 have hz' : ∀ d,¬ (1≤d∧d≤s)→cn vv' c' d=0:=fun d hd=>by
  refine Nat.eq_zero_of_le_zero (Nat.le_of_not_lt fun h=>?_)
  obtain ⟨i,hi,e1⟩:=pa h
  exact hd ⟨by rw [← e1]; exact A'.ge i hi,by rw [← e1]; exact hbig _ (A'.sq i hi).1⟩
 have hinv:∀ d:Nat,∃ b:K,1≤d∧d≤s→(d:K) * b=1:=fun d=>by
  by_cases hd:1≤d∧d≤s
  ·obtain ⟨b,hb⟩:=F.1 _ (hcz d hd.1 (by omega)); exact ⟨b,fun _=>hb⟩
  exact ⟨0,fun h=>absurd h hd⟩
 obtain ⟨di,hdi⟩:=Classical.axiomOfChoice hinv
 let x:Nat→K:=fun j=>(n:K) * n * (di (j + 1) * di (j + 1))
 have hx:∀ i j,i < s→j < s→i ≠ j→x i ≠ x j:=fun i j hi hj hij he=>by
  have a1:=hdi (i + 1) ⟨by omega,by omega⟩
  have a2:=hdi (j + 1) ⟨by omega,by omega⟩
  have he:(n:K) * n * (di (i + 1) * di (i + 1))=(n:K) * n * (di (j + 1) * di (j + 1)):=he
  obtain ⟨ni,hni⟩:=F.1 _ hn0
  have e1:(((i + 1:Nat):K) - ((j + 1:Nat):K)) * (((i + 1:Nat):K) + ((j + 1:Nat):K))=0:=by grind
  rcases F.mul e1 with e2 | e2
  ·exact R.ne (a:=i + 1) (b:=j + 1) (by omega) (by omega) (by omega) e2
  exact hcz (i + 1 + (j + 1)) (by omega) (by omega) (by rw [Semiring.natCast_add]; exact e2)
 have hsum:∀ (g:Nat→K),(∀ d,¬ (1≤d∧d≤s)→g d=0)→∀ m,s < m→sm g m=sm (fun j=>g (j + 1)) s:=fun g hg m hm=>by
  have e1:∀ q,sm g (q + 1)=g 0 + sm (fun j=>g (j + 1)) q:=fun q=>by
   induction q with
   | zero=>show 0 + g 0=g 0 + 0; grind
   | succ q ih=>rw [sm,ih,sm]; grind
  have e2:∀ q,sm (fun j=>g (j + 1)) (s + q)=sm (fun j=>g (j + 1)) s:=fun q=>by
   induction q with
   | zero=>rfl
   | succ q ih =>
    show sm (fun j=>g (j + 1)) (s + q) + g (s + q + 1)=_
    rw [ih,hg _ (by omega)]; grind
  rw [show m=s + (m - s - 1) + 1 by omega,e1,hg 0 (by omega),e2]; grind
 have hA:∀ k,(n:K) * ((zN n f e k e:Nat):K)=sm (fun j=>((cn vv c (j + 1):Nat):K) * (((j + 1:Nat):K) * ((j + 1:Nat):K)) * x j ^ k) s:=fun k=>by
  rw [A.bk h F hn0 k]
  have e1:∀ i,i < c→(vv i:K) * vv i * ((n:K) * bT n f e (tt i) (tt i) e) ^ k=sm (fun d=>(if vv i=d then (1:K) else 0) * ((d:K) * d * ((n:K) * n * (di d * di d)) ^ k)) (s + 1):=fun i hi=>by
   obtain ⟨v1,v2⟩:=A.sq i hi
   have hvs:=hbig _ v1
   have hg:=A.ge i hi
   rw [bj (i:=vv i) (by omega) fun d _ hd=>by rw [if_neg fun hh=>hd hh.symm]; grind,if_pos rfl]
   have e2:(n:K) * bT n f e (tt i) (tt i) e=(n:K) * n * (di (vv i) * di (vv i)):=by
    have:=hdi (vv i) ⟨hg,hvs⟩
    rw [← v2]; grind
   rw [e2]; grind
  rw [al e1,aX]
  rw [hsum _ (fun d hd=>?_) (s + 1) (by omega)]
  ·refine al fun j hj=>?_
   rw [bU]
   have e3:sm (fun i=>if vv i=j + 1 then (1:K) else 0) c=((cn vv c (j + 1):Nat):K):=by
    unfold cn
    rw [ri]
    exact al fun i _=>by
     by_cases hh:vv i=j + 1
     ·rw [if_pos hh,if_pos hh,Semiring.natCast_one]
     rw [if_neg hh,if_neg hh,Semiring.natCast_zero]
   rw [e3]; grind
  refine aW fun i hi=>?_
  have:vv i ≠ d:=fun hh=>hd ⟨by rw [← hh]; exact A.ge i hi,by rw [← hh]; exact hbig _ (A.sq i hi).1⟩
  rw [if_neg this]; grind
 have hA' : ∀ k,k≤6→(n:K) * ((zN n f e k e:Nat):K)=sm (fun j=>((cn vv' c' (j + 1):Nat):K) * (((j + 1:Nat):K) * ((j + 1:Nat):K)) * x j ^ k) s:=fun k hk=>by
  rw [← Semiring.natCast_mul,A'.count h' R' hn0' hn1 hn hb hk,ri,hsum _ (fun d hd=>by rw [hz' d hd,Nat.zero_mul]; exact Semiring.natCast_zero) 8 (by omega)]
  refine al fun j hj=>?_
  by_cases h0:cn vv' c' (j + 1)=0
  ·rw [h0,Nat.zero_mul,Semiring.natCast_zero]; grind
  obtain ⟨i,hi,e1⟩:=pa (vv:=vv') (c:=c') (d:=j + 1) (by omega)
  have hdv:=A'.dvd h' R' hn0' hn1 hn hb hi
  rw [e1] at hdv
  obtain ⟨q,hq⟩:=hdv
  have hnd:n / (j + 1)=q:=by rw [hq,Nat.mul_div_cancel_left _ (by omega)]
  have hqK:((q:Nat):K)=(n:K) * di (j + 1):=by
   have a1:=hdi (j + 1) ⟨by omega,by omega⟩
   have a2:(n:K)=((j + 1:Nat):K) * (q:K):=by rw [← Semiring.natCast_mul,← hq]
   rw [a2]; grind
  rw [hnd,Semiring.natCast_mul,Semiring.natCast_mul,Semiring.natCast_mul,Semiring.natCast_pow,Semiring.natCast_mul,hqK]
  have:(n:K) * di (j + 1) * ((n:K) * di (j + 1))=x j:=by show _=(n:K) * n * (di (j + 1) * di (j + 1)); grind
  rw [this]; grind
 have hV:=JY F s x (fun j=>(((cn vv c (j + 1):Nat):K) - ((cn vv' c' (j + 1):Nat):K)) * (((j + 1:Nat):K) * ((j + 1:Nat):K))) hx fun k hk=>by
  have e1:=hA k
  rw [hA' k (by omega)] at e1
  have e2:sm (fun j=>(((cn vv c (j + 1):Nat):K) - ((cn vv' c' (j + 1):Nat):K)) * (((j + 1:Nat):K) * ((j + 1:Nat):K)) * x j ^ k) s=sm (fun j=>((cn vv c (j + 1):Nat):K) * (((j + 1:Nat):K) * ((j + 1:Nat):K)) * x j ^ k) s - sm (fun j=>((cn vv' c' (j + 1):Nat):K) * (((j + 1:Nat):K) * ((j + 1:Nat):K)) * x j ^ k) s:=by
   rw [← kQ]; exact al fun j _=>by grind
  rw [e2,e1]; grind
 intro d
 by_cases hd:1≤d∧d≤s
 ·obtain ⟨j,rfl⟩:∃ j,d=j + 1:=⟨d - 1,by omega⟩
  have h1:=hV j (by omega)
  have hj:=hcz (j + 1) (by omega) (by omega)
  obtain ⟨b,hb2⟩:=F.1 _ hj
  have l1:=uk vv (j + 1) c
  have l2:=uk vv' (j + 1) c'
  refine R.gW (p:=p) (by omega) (by omega) ?_
  grind
 rw [hz d hd,hz' d hd]
end Go.Proofs.YtjlmpmidchddjaaDoor
namespace Go.Proofs.YtjlmpmidchddjaaDoor
open Go.Pv
def ko (e x:Nat):Bool:=decide (x=e)
def kN (n:Nat) (f:Nat→Nat→Nat) (p q:Nat→Bool) (a b:Nat):Bool:=decide (∃ x,x < n∧p x=true∧∃ y,y < n∧q y=true∧f (f x a) y=b)
theorem DU {n:Nat} {P Q:Nat→Bool} (g:Nat→Nat) (h1:∀ x,x < n→P x=true→g x < n∧Q (g x)=true) (hi:∀ x y,x < n→y < n→P x=true→P y=true→g x=g y→x=y) (h2:∀ y,y < n→Q y=true→∃ x,x < n∧P x=true∧g x=y):(mem n P).length=(mem n Q).length:=by
 rw [← List.length_map (f:=g) («as»:=mem n P)]
 refine ga (fU (List.nodup_range.filter _) fun x hx y hy he=>hi x y (aR.1 hx).1 (aR.1 hy).1 (aR.1 hx).2 (aR.1 hy).2 he) (List.nodup_range.filter _) fun y=>?_
 rw [List.mem_map,aR]
 constructor
 ·rintro ⟨x,hx,rfl⟩
  exact h1 x (aR.1 hx).1 (aR.1 hx).2
 rintro ⟨y1,y2⟩
 obtain ⟨x,x1,x2,x3⟩:=h2 y y1 y2
 exact ⟨x,aR.2 ⟨x1,x2⟩,x3⟩
section
variable {n:Nat} {f:Nat→Nat→Nat} {e:Nat} {p q:Nat→Bool}
theorem eU {a b:Nat} : kN n f p q a b=true↔∃ x y,x < n∧y < n∧p x=true∧q y=true∧f (f x a) y=b:=by
 unfold kN; rw [decide_eq_true_iff]
 exact ⟨fun ⟨x,h1,h2,y,h3,h4,h5⟩=>⟨x,y,h1,h3,h2,h4,h5⟩,fun ⟨x,y,h1,h3,h2,h4,h5⟩=>⟨x,h1,h2,y,h3,h4,h5⟩⟩
theorem jT {x:Nat} : ko e x=true↔x=e:=by unfold ko; exact decide_eq_true_iff
theorem bB.sk (G:bB n f e):Sub n f e (ko e):=
 Fz G (jT.2 rfl) fun a b ha hb h1 h2=>by
  rw [jT] at *; subst h1; subst h2; exact G.one_l _ ha
theorem bB.sA (G:bB n f e) (hp:Sub n f e p) (hq:Sub n f e q):p9 n (kN n f p q) where
 refl a ha:=eU.2 ⟨e,e,G.el,G.el,hp.one,hq.one,by rw [G.one_l a ha,G.one_r a ha]⟩
 symm a b ha hb h:=by
  obtain ⟨x,y,x1,y1,x2,y2,rfl⟩:=eU.1 h
  have ix:=G.az x1
  have iy:=G.az y1
  have hxa:=G.cl _ _ x1 ha
  refine eU.2 ⟨iv n f e x,iv n f e y,ix,iy,hp.inv x x1 x2,hq.inv y y1 y2,?_⟩
  rw [← G.assoc _ _ y ix hxa y1,← G.assoc _ x a ix x1 ha,G.cV x1,G.one_l a ha,G.assoc a y _ ha y1 iy,G.cR y1,G.one_r a ha]
 trans a b c ha hb hc h1 h2:=by
  obtain ⟨x,y,x1,y1,x2,y2,rfl⟩:=eU.1 h1
  obtain ⟨u,v,u1,v1,u2,v2,rfl⟩:=eU.1 h2
  have hxa:=G.cl _ _ x1 ha
  refine eU.2 ⟨f u x,f y v,G.cl _ _ u1 x1,G.cl _ _ y1 v1,hp.mul _ _ u1 x1 u2 x2,hq.mul _ _ y1 v1 y2 v2,?_⟩
  rw [G.assoc u x a u1 x1 ha,← G.assoc _ y v (G.cl _ _ u1 hxa) y1 v1,G.assoc u (f x a) y u1 hxa y1]
theorem bB.rT (G:bB n f e) {a b:Nat} (ha:a < n) (hb:b < n):kN n f p (ko e) a b=p (f b (iv n f e a)):=by
 rw [Bool.eq_iff_iff,eU]
 constructor
 ·rintro ⟨x,y,x1,y1,x2,y2,rfl⟩
  rw [jT.1 y2,G.one_r _ (G.cl _ _ x1 ha),G.assoc x a _ x1 ha (G.az ha),G.cR ha,G.one_r x x1]; exact x2
 intro h
 refine ⟨f b (iv n f e a),e,G.cl _ _ hb (G.az ha),G.el,h,jT.2 rfl,?_⟩
 rw [G.assoc b _ a hb (G.az ha) ha,G.cV ha,G.one_r b hb,G.one_r b hb]
theorem bB.CA (G:bB n f e) {a:Nat} (ha:a < n):(mem n (kN n f p (ko e) a)).length=(mem n p).length:=by
 refine (DU (fun x=>f x a) (fun x hx h=>⟨G.cl _ _ hx ha,eU.2 ⟨x,e,hx,G.el,h,jT.2 rfl,G.one_r _ (G.cl _ _ hx ha)⟩⟩) (fun x y hx hy _ _ h=>G.lM ha hx hy h) fun y hy h=>?_).symm
 obtain ⟨x,z,x1,z1,x2,z2,rfl⟩:=eU.1 h
 exact ⟨x,x1,x2,by rw [jT.1 z2,G.one_r _ (G.cl _ _ x1 ha)]⟩
theorem tH {α:Type} {g:α→Nat} {k:Nat} : ∀ {l:List α},(∀ x∈l,g x=k)→(l.map g).sum=l.length * k
 | [],_=>by simp
 | a :: l,h=>by
  rw [List.map_cons,List.sum_cons,tH (l:=l) fun x hx=>h x (by simp [hx]),h a (by simp),List.length_cons,Nat.add_mul,Nat.one_mul,Nat.add_comm]
theorem bB.xr (G:bB n f e) (hp:Sub n f e p):(mem n (lead (kN n f p (ko e)))).length * (mem n p).length=n:=by
 have h:=(G.sA hp G.sk).sum
 rwa [tH fun x hx=>G.CA (aR.1 hx).1] at h
theorem Sub.pos (hp:Sub n f e p) (he:e < n):0 < (mem n p).length:=List.length_pos_of_mem (aR.2 ⟨he,hp.one⟩)
theorem p9.part {r:Nat→Nat→Bool} (h:p9 n r) {K:Nat→Bool} (hK:∀ x y,x < n→y < n→r x y=true→K x=true→K y=true):((mem n fun x=>lead r x && K x).map fun x=>(mem n (r x)).length).sum=(mem n K).length:=by
 have h1:=iJ (fun x y=>r x y) (mem n fun x=>lead r x && K x) (List.range n)
 have h2:∀ y,y∈List.range n→((mem n fun x=>lead r x && K x).filter fun x=>r x y).length=if K y=true then 1 else 0:=fun y hy=>by
  have y1:=List.mem_range.1 hy
  by_cases hk:K y=true
  ·rw [if_pos hk,← h.one y1]
   congr 1
   unfold mem
   rw [List.filter_filter,List.filter_filter]
   refine List.filter_congr fun x hx=>?_
   have x1:=List.mem_range.1 hx
   cases hr:r x y with
   | false=>simp
   | true=>rw [hK y x y1 x1 (h.symm x y x1 y1 hr) hk]; simp
  rw [if_neg hk,List.length_eq_zero_iff,List.filter_eq_nil_iff]
  intro x hx hr
  obtain ⟨x1,x2⟩:=aR.1 hx
  rw [Bool.and_eq_true] at x2
  exact hk (hK x y x1 y1 hr x2.2)
 have h3:((List.range n).map fun y=>((mem n fun x=>lead r x && K x).filter fun x=>r x y).length).sum=(mem n K).length:=by
  rw [List.map_congr_left h2]
  unfold mem
  generalize List.range n=L
  induction L with
  | nil=>rfl
  | cons a L ih=>rw [List.map_cons,List.sum_cons,ih,List.filter_cons]; by_cases hk:K a=true<;>simp [hk,Nat.add_comm]
 exact h1.trans h3
end
open Go.Pv
def Cs (n:Nat) (f:Nat→Nat→Nat) (e:Nat) (p q:Nat→Bool) (x:Nat):Bool:=decide (∃ a,a < n∧p a=true∧∃ b,b < n∧q b=true∧tI n f e a b=x)
structure I5 (n:Nat) (T:Nat→Nat→Bool) (K:Nat):Prop where
 eq:∀ a,a < n→T (K + 1) a=T K a
 ne:∀ j,j < K→¬ ∀ a,a < n→T (j + 1) a=T j a
section
variable {n:Nat} {f:Nat→Nat→Nat} {e:Nat}
theorem lO {p q:Nat→Bool} {x:Nat} : Cs n f e p q x=true↔∃ a b,a < n∧b < n∧p a=true∧q b=true∧tI n f e a b=x:=by
 unfold Cs; rw [decide_eq_true_iff]
 exact ⟨fun ⟨a,h1,h2,b,h3,h4,h5⟩=>⟨a,b,h1,h3,h2,h4,h5⟩,fun ⟨a,b,h1,h3,h2,h4,h5⟩=>⟨a,h1,h2,b,h3,h4,h5⟩⟩
theorem bB.EH (G:bB n f e) {p q:Nat→Bool} (hp:vN n f e p) (hq:vN n f e q):vN n f e (Cs n f e p q):=fun c hc x hx h=>by
 obtain ⟨a,b,a1,b1,a2,b2,rfl⟩:=lO.1 h
 rw [G.Ey a1 b1 hc]
 exact lO.2 ⟨_,_,G.ed a1 hc,G.ed b1 hc,hp c hc a a1 a2,hq c hc b b1 b2,rfl⟩
section
variable {nx:(Nat→Bool)→Nat→Bool}
end
theorem bB.F9 (G:bB n f e) (p:Nat→Bool) (hp:vN n f e p):vN n f e (Cs n f e p fun _=>true):=G.EH hp fun _ _ _ _ _=>rfl
end
open Go.Pv
structure Qm (n:Nat) (f:Nat→Nat→Nat) (k:Nat) (cl rep:Nat→Nat):Prop where
 lt:∀ a,a < n→cl a < k
 rlt:∀ i,i < k→rep i < n
 at_:∀ i,i < k→cl (rep i)=i
 cong:∀ a b c d,a < n→b < n→c < n→d < n→cl a=cl b→cl c=cl d→cl (f a c)=cl (f b d)
section
variable {n:Nat} {f:Nat→Nat→Nat} {e:Nat} {p:Nat→Bool}
def GU (f:Nat→Nat→Nat) (cl rep:Nat→Nat) (i j:Nat):Nat:=cl (f (rep i) (rep j))
theorem bB.A6 (G:bB n f e) (hp:Sub n f e p) (hn:vN n f e p) {a b c d:Nat} (ha:a < n) (hb:b < n) (hc:c < n) (hd:d < n) (h1:kN n f p (ko e) a b=true) (h2:kN n f p (ko e) c d=true):kN n f p (ko e) (f a c) (f b d)=true:=by
 have ia:=G.az ha
 have ic:=G.az hc
 have h3:=G.cl _ _ hb ia
 have h4:=G.cl _ _ hd ic
 rw [G.rT ha hb] at h1
 rw [G.rT hc hd] at h2
 rw [G.rT (G.cl _ _ ha hc) (G.cl _ _ hb hd),G.cr ha hc]
 have h5:=hn _ ia _ h4 h2
 unfold gB at h5
 rw [G.cO ha] at h5
 have h6:=hp.mul _ _ h3 (G.cl _ _ (G.cl _ _ ha h4) ia) h1 h5
 have e1:f (f b (iv n f e a)) (f (f a (f d (iv n f e c))) (iv n f e a))=f (f b d) (f (iv n f e c) (iv n f e a)):=by
  rw [G.assoc b _ _ hb ia (G.cl _ _ (G.cl _ _ ha h4) ia),G.assoc a _ _ ha h4 ia,← G.assoc _ a _ ia ha (G.cl _ _ h4 ia),G.cV ha,G.one_l _ (G.cl _ _ h4 ia),G.assoc d _ _ hd ic ia,← G.assoc b d _ hb hd (G.cl _ _ ic ia)]
 rw [← e1]; exact h6
end
open Go.Pv
section
variable {n:Nat} {f:Nat→Nat→Nat} {e:Nat}
end
end Go.Proofs.YtjlmpmidchddjaaDoor
namespace Go.Proofs.YtjlmpmidchddjaaDoor
open Lean.Grind
attribute [local instance] Lean.Grind.Semiring.natCast Lean.Grind.Ring.intCast
section
variable {n e c:Nat} {f:Nat→Nat→Nat} {cI xx:Nat→Nat} {K:Type} [CommRing K] {p:Nat}
theorem Dg (G:bB n f e) {a b:Nat} (ha:a < n) (hb:b < n):qD n f e a b=tI n f e a b:=by
 have ia:=G.az ha
 have ib:=G.az hb
 unfold qD cM tI
 rw [G.assoc _ _ _ ib ha hb,← G.assoc _ _ _ ia ib (G.cl _ _ ha hb)]
theorem eu.Jf (h:GC n f e c cI xx) (R:Rp K p) (h2n:2 * n < p) (hn0:(n:K) ≠ 0) {tt:Nat→Nat→K} {vv:Nat→Nat} (A:eu K n f e c cI tt vv) {i:Nat} (hi:i < c) (hv:vv i=1) {a:Nat} (ha:eh n f e (Cs n f e (fun _=>true) fun _=>true) a):a < n∧tt i a=1:=by
 have G:=h.G
 have ht:=A.chr i hi
 have hm:∀ a b,a < n→b < n→tt i (f a b)=tt i a * tt i b:=fun a b ha hb=>A.mO h R h2n hn0 hi hv ha hb
 induction ha with
 | one=>exact ⟨G.el,ht.one⟩
 | step a b h1 hb hp ih =>
  obtain ⟨x,y,hx,hy,_,_,hxy⟩:=lO.1 hp
  have ix:=G.az hx
  have iy:=G.az hy
  have e1:tt i b=1:=by
   rw [← hxy]
   unfold tI
   rw [hm _ _ (G.cl _ _ ix iy) (G.cl _ _ hx hy),hm _ _ ix iy,hm _ _ hx hy]
   have a1:=hm _ _ hx ix
   have a2:=hm _ _ hy iy
   rw [G.cR hx,ht.one] at a1
   rw [G.cR hy,ht.one] at a2
   grind
  exact ⟨G.cl _ _ ih.1 hb,by rw [hm _ _ ih.1 hb,ih.2,e1]; grind⟩
theorem eu.Cz (h:GC n f e c cI xx) (R:Rp K p) (h2n:2 * n < p) (hn1:1≤n) (hcn:c≤n) (hn0:(n:K) ≠ 0) (hcz:∀ a:Nat,0 < a→a < p→(a:K) ≠ 0) {tt:Nat→Nat→K} {vv:Nat→Nat} (A:eu K n f e c cI tt vv)
  {d:Nat→Bool} (hd:∀ a,a < n→(d a=true↔eh n f e (Cs n f e (fun _=>true) fun _=>true) a)) (hs:Sub n f e d) (hN:vN n f e d):cn vv c 1 * (mem n d).length=n:=by
 have G:=h.G
 have F:=R.fld
 have hcj:∀ y a,y < n→a < n→d (cM n f e y a)=d a:=fun y a hy ha=>by
  have iy:=G.az hy
  have hc:=h.mf hy ha
  have key:∀ y a,y < n→a < n→d a=true→d (cM n f e y a)=true:=fun y a hy ha hda=>hN y hy a ha hda
  have hback:cM n f e (iv n f e y) (cM n f e y a)=a:=by
   have e1:cM n f e (iv n f e y) (cM n f e y a)=f (f y (cM n f e y a)) (iv n f e y):=by unfold cM; rw [G.cO hy]
   rw [e1]
   unfold cM
   rw [G.assoc _ _ _ iy ha hy,h.nY hy (G.cl _ _ ha hy),h.F7 hy ha]
  rw [Bool.eq_iff_iff]
  exact ⟨fun h1=>by have:=key (iv n f e y) _ iy hc h1; rwa [hback] at this,key y a hy ha⟩
 let D:Nat→K:=fun a=>if d a=true then 1 else 0
 have hDl:sm D n=(((mem n d).length:Nat):K):=by
  unfold mem
  rw [← wb,gQ,cm]
 have hWx:∀ i,i < c→∀ x,x < n→sm (fun a=>D a * tt i (f a x)) n=sm (fun a=>D a * tt i a) n * tt i x:=fun i hi x hx=>by
  have ht:=A.chr i hi
  have e1:(n:K) * sm (fun a=>D a * tt i (f a x)) n=(n:K) * (sm (fun a=>D a * tt i a) n * tt i x):=by
   have e2:∀ y,y < n→sm (fun a=>D a * tt i (f a x)) n=sm (fun a=>D a * tt i (f (cM n f e y a) x)) n:=fun y hy=>by
    rw [← h.CN hy fun a=>D a * tt i (f a x)]
    exact al fun a ha=>by show (if d (cM n f e y a)=true then (1:K) else 0) * _=(if d a=true then (1:K) else 0) * _; rw [hcj y a hy ha]
   rw [← dT,al e2,aX]
   have e3:∀ a,a < n→sm (fun y=>D a * tt i (f (cM n f e y a) x)) n=(n:K) * (D a * tt i a * tt i x):=fun a ha=>by
    rw [aN,ht.mul a x ha hx]; grind
   rw [al e3,aN,bU]
  obtain ⟨ni,hni⟩:=F.1 _ hn0
  grind
 have hW:∀ i,i < c→(vv i:K) * vv i * sm (fun a=>D a * tt i a) n=(if vv i=1 then 1 else 0) * (((mem n d).length:Nat):K):=fun i hi=>by
  have ht:=A.chr i hi
  by_cases hv:vv i=1
  ·rw [if_pos hv,hv,Semiring.natCast_one]
   have:sm (fun a=>D a * tt i a) n=sm D n:=al fun a ha=>by
    by_cases hda:d a=true
    ·rw [(A.Jf h R h2n hn0 hi hv ((hd a ha).1 hda)).2]; grind
    show (if d a=true then (1:K) else 0) * _=if d a=true then (1:K) else 0
    rw [if_neg hda]; grind
   rw [this,hDl]; grind
  rw [if_neg hv]
  have hz:sm (fun a=>D a * tt i a) n=0:=by
   by_cases hex:∃ a,a < n∧d a=true∧tt i a ≠ 1
   ·obtain ⟨a0,ha0,hda0,hne⟩:=hex
    have e1:=hWx i hi a0 ha0
    have e2:sm (fun a=>D a * tt i (f a a0)) n=sm (fun a=>D a * tt i a) n:=by
     rw [← h.Iy ha0 fun a=>D a * tt i a]
     refine al fun a ha=>?_
     have:d (f a a0)=d a:=by
      rw [Bool.eq_iff_iff]
      refine ⟨fun h1=>?_,fun h1=>hs.mul a a0 ha ha0 h1 hda0⟩
      have h2:=hs.mul _ _ (G.cl _ _ ha ha0) (G.az ha0) h1 (hs.inv a0 ha0 hda0)
      rwa [h.F7 ha0 ha] at h2
     show (if d a=true then (1:K) else 0) * _=(if d (f a a0)=true then (1:K) else 0) * _
     rw [this]
    rw [e2] at e1
    have e3:sm (fun a=>D a * tt i a) n * (tt i a0 - 1)=0:=by grind
    rcases F.mul e3 with h1 | h1
    ·exact h1
    exact absurd (show tt i a0=1 by grind) hne
   exfalso
   have hall:∀ a,a < n→d a=true→tt i a=1:=fun a ha hda=>Classical.byContradiction fun hc=>hex ⟨a,ha,hda,hc⟩
   have e1:=h.Ft F hn0 ht G.el
   have e2:sm (fun a=>sm (fun b=>tt i (f (qD n f e a b) e)) n) n=(n:K) * ((n:K) * 1):=by
    rw [← dT]
    refine al fun a ha=>?_
    rw [← dT]
    refine al fun b hb=>?_
    have hc:=h.HK ha hb
    rw [G.one_r _ hc]
    refine hall _ hc ((hd _ hc).2 ?_)
    have h3:f e (qD n f e a b)=qD n f e a b:=G.one_l _ hc
    rw [← h3]
    refine eh.step _ _ .one hc (lO.2 ⟨a,b,ha,hb,rfl,rfl,?_⟩)
    rw [Dg G ha hb]
   rw [e2,ht.one] at e1
   obtain ⟨v1,v2⟩:=A.sq i hi
   obtain ⟨ni,hni⟩:=F.1 _ hn0
   have e3:((vv i * vv i:Nat):K)=((1:Nat):K):=by
    rw [Semiring.natCast_mul,Semiring.natCast_one]
    have:bT n f e (tt i) (tt i) e=(n:K):=by grind
    rw [this] at v2
    grind
   have e4:=R.gW (p:=p) (by omega) (by have:=R.two; omega) e3
   have hge:=A.ge i hi
   have:2 * 2≤vv i * vv i:=Nat.mul_le_mul (by omega) (by omega)
   omega
  rw [hz]; grind
 have hsum:(n:K)=((cn vv c 1:Nat):K) * (((mem n d).length:Nat):K):=by
  have e1:sm (fun i=>(vv i:K) * vv i * sm (fun a=>D a * tt i a) n) c=(n:K):=by
   have e2:∀ i,i < c→(vv i:K) * vv i * sm (fun a=>D a * tt i a) n=sm (fun a=>D a * ((vv i:K) * vv i * tt i a)) n:=fun i _=>by
    rw [← aN]; exact al fun a _=>by grind
   rw [al e2,aX]
   have e3:∀ a,a < n→sm (fun i=>D a * ((vv i:K) * vv i * tt i a)) c=D a * (if a=e then (n:K) else 0):=fun a ha=>by rw [aN,A.Hm a ha]
   rw [al e3,bj (i:=e) G.el fun a _ hae=>by rw [if_neg hae]; grind,if_pos rfl]
   show (if d e=true then (1:K) else 0) * (n:K)=n
   rw [if_pos hs.one]; grind
  rw [← e1,al hW,bU]
  congr 1
  unfold cn
  rw [ri]
  exact al fun i _=>by
   by_cases hh:vv i=1
   ·rw [if_pos hh,if_pos hh,Semiring.natCast_one]
   rw [if_neg hh,if_neg hh,Semiring.natCast_zero]
 have hnum:=G.xr hs
 have hml:0 < (mem n d).length:=List.length_pos_of_mem (aR.2 ⟨G.el,hs.one⟩)
 have hml2:(mem n d).length≤n:=by
  have hq0:0 < (mem n (lead (kN n f d (ko e)))).length:=Nat.pos_of_ne_zero fun h0=>by
   rw [h0,Nat.zero_mul] at hnum
   omega
  have:=Nat.le_mul_of_pos_left (mem n d).length hq0
  omega
 have hq2:(mem n (lead (kN n f d (ko e)))).length≤n:=by
  have:=Nat.le_mul_of_pos_right (mem n (lead (kN n f d (ko e)))).length hml
  omega
 have hcl:=uk vv 1 c
 have:(mem n (lead (kN n f d (ko e)))).length=cn vv c 1:=by
  refine R.gW (p:=p) (by omega) (by omega) ?_
  have e1:(n:K)=(((mem n (lead (kN n f d (ko e)))).length:Nat):K) * (((mem n d).length:Nat):K):=by rw [← Semiring.natCast_mul,hnum]
  obtain ⟨b,hb⟩:=F.1 _ (hcz _ hml (by omega))
  grind
 rw [← this]
 exact hnum
end
end Go.Proofs.YtjlmpmidchddjaaDoor
namespace Go.Proofs.YtjlmpmidchddjaaDoor
open Lean.Grind
attribute [local instance] Lean.Grind.Semiring.natCast Lean.Grind.Ring.intCast
variable {n e:Nat} {m:List Int}
theorem yB (h:GT n m n e):∃ vv:Nat→Nat,(∀ i,i < aZ m n e→((nX m n e).getD i []).getD (rh m n e) 0=(vv i:Nat)∧1≤vv i∧vv i≤n∧vv i ∣ n)∧sn (fun i=>vv i * vv i) (aZ m n e)=n ∧
  (∀ d:Nat→Bool,(∀ a,a < n→(d a=true↔eh n (op m n) e (Cs n (op m n) e (fun _=>true) fun _=>true) a))→Sub n (op m n) e d→vN n (op m n) e d→cn vv (aZ m n e) 1=(bA n (kN n (op m n) d (ko e))).length) ∧
  ∀ (p:Nat) [NeZero p] (tt' : Nat→Nat→Fin p) (vv' : Nat→Nat),PG p→2 ^ 200 < p→eu (Fin p) n (op m n) e (aZ m n e) (bW m n e) tt' vv'→∀ d,cn vv (aZ m n e) d=cn vv' (aZ m n e) d:=by
 obtain ⟨P,p1,p2⟩:=ub h
 have hp3:=P.three
 haveI:NeZero (aK m n e):=⟨by omega⟩
 have H:=mM h
 have C:=u3 h
 have R:=H.R
 have hn1:=h.2.1.pos
 have hn:=h.2.1.big
 have hcn:=(vJ h).2
 obtain ⟨tt,vv,A,hrow⟩:=Em h
 have hsame:∀ (p:Nat) [NeZero p] (tt' : Nat→Nat→Fin p) (vv' : Nat→Nat),PG p→2 ^ 200 < p→eu (Fin p) n (op m n) e (aZ m n e) (bW m n e) tt' vv'→∀ d,cn vv (aZ m n e) d=cn vv' (aZ m n e) d:=fun p _ tt' vv' hP hb A'=>by
  have h200:120 < 2 ^ 200:=by decide
  exact eu.same C C R (wZ hP) p1 H.cz (uD n (by omega) (by omega)) hn1 hn hb hcn hcn A A'
 refine ⟨vv,fun i hi=>?_,A.sum,fun d hd hs hN=>?_,hsame⟩
 ·have hv1:=A.ge i hi
  have hv2:=(A.sq i hi).1
  refine ⟨(hrow i hi).2,hv1,Nat.le_trans (Nat.le_mul_of_pos_left _ hv1) hv2,?_⟩
  obtain ⟨q,q1,q2,q3,q4⟩:=IL
  haveI:NeZero q:=⟨by have:=q1.three; omega⟩
  obtain ⟨tt',vv',A'⟩:=GB h q1 q2 q3 q4
  have h1:=hsame q tt' vv' q1 q3 A' (vv i)
  have h2:=vR (vv:=vv) hi
  rw [h1] at h2
  obtain ⟨j,hj,e1⟩:=pa h2
  have h200:120 < 2 ^ 200:=by decide
  have:=A'.dvd C (wZ q1) (uD n (by omega) (by omega)) hn1 hn q3 hj
  rwa [e1] at this
 have h1:=A.Cz C R p1 hn1 hcn H.nz H.cz hd hs hN
 have h2:=h.2.2.xr hs
 have hml:0 < (mem n d).length:=List.length_pos_of_mem (aR.2 ⟨h.2.2.el,hs.one⟩)
 have h3:cn vv (aZ m n e) 1=(mem n (lead (kN n (op m n) d (ko e)))).length:=Nat.eq_of_mul_eq_mul_right hml (by rw [h1,h2])
 rw [h3]
 unfold bA eE mem
 simp
end Go.Proofs.YtjlmpmidchddjaaDoor
namespace Go.Proofs.YtjlmpmidchddjaaDoor
open Go.Pv
def Jt (b:Bool):Int × Int:=bif b then (0,0) else (7,0)
theorem tg {n e:Nat} {m:List Int} (h:GT n m n e) (p:Nat→Bool) (b:Bool) (hbs:b=true↔Sub n (op m n) e p):bR Tryd.prog 93 [gp n m,.list (il (aS n p))] (fl (Jt b)):=by
 refine aI ae Tryd.func93 rfl (by kernel_rfl) (by rw [Tryd.ntmps93]; exact Nat.le_add_left 2 _) ?_; rw [Tryd.ntmps93]
 refine qm ?_
 refine ab fun K hK=>aa ae ?_
 simp only [aj,fl,gp,ai,simprocAttr]
 refine af ?_ (hK _ ?_)<;>clear hK K
 ·first|exact trivial|omega|(simp only [ah] at *; omega)|(simp [ah] at *; omega)|simp_all
 refine qa (qm ?_)
 refine ab fun K hK=>aa ae ?_
 simp only [aj,fl,gp,ai,simprocAttr]
 refine an trivial (ak (HQ h p b hbs) rfl rfl rfl (by simp only [au,Nat.reduceLT]) (by repeat (first|exact trivial|constructor)) (aa ae ?_))
 simp only [aj,fl,gp,ai,simprocAttr]
 refine af ?_ (hK _ ?_)<;>clear hK K
 ·first|exact trivial|omega|(simp only [ah] at *; omega)|(simp [ah] at *; omega)|simp_all
 refine qa (qm (qm ?_))
 refine ab fun K hK=>aa ae ?_
 simp only [aj,fl,gp,ai,simprocAttr]
 refine af ?_ (hK _ ?_)<;>clear hK K
 ·first|exact trivial|omega|(simp only [ah] at *; omega)|(simp [ah] at *; omega)|simp_all
 refine qa ?_
 refine ao rfl (fun hC1=>?_) (fun hC1=>?_)
 ·(try simp only [aG] at hC1)
  have hbf:b=false:=by simpa using hC1
  refine qm ?_
  refine ab fun K hK=>aa ae ?_
  simp only [aj,fl,gp,ai,simprocAttr]
  refine an trivial (ak (jA 7 0) rfl rfl rfl (by simp only [au,Nat.reduceLT]) (by repeat (first|exact trivial|constructor)) (aa ae ?_))
  simp only [aj,fl,gp,ai,simprocAttr]
  refine af ?_ (hK _ ?_)<;>clear hK K
  ·first|exact trivial|omega|(simp only [ah] at *; omega)|(simp [ah] at *; omega)|simp_all
  refine qa (qk (qb ?_))
  simp only [Tryd.results93,bG,aj,fl,gp,ai,simprocAttr]
  all_goals (rw [hbf]; exact ⟨rfl,rfl⟩)
 (try simp only [aG] at hC1)
 have hbt:b=true:=by simpa using hC1
 refine qh (qa (qm ?_))
 refine ab fun K hK=>aa ae ?_
 simp only [aj,fl,gp,ai,simprocAttr]
 refine af ?_ (hK _ ?_)<;>clear hK K
 ·first|exact trivial|omega|(simp only [ah] at *; omega)|(simp [ah] at *; omega)|simp_all
 refine qa (qk ?_)
 simp only [Tryd.results93,bG,aj,fl,gp,ai,simprocAttr]
 all_goals (rw [hbt]; exact ⟨rfl,rfl⟩)
def mf (n:Nat) (f:Nat→Nat→Nat) (e a:Nat) (l:List Int):List Int:=l.map fun x=>((gB n f e x.toNat a:Nat):Int)
theorem BH (n:Nat) (f:Nat→Nat→Nat) (e a:Nat) {l:List Int} {i:Nat} (hi:i < l.length):mf n f e a (l.take (i + 1))=mf n f e a (l.take i)++[((gB n f e (l.getD i 0).toNat a:Nat):Int)]:=by
 unfold mf
 rw [List.take_succ_eq_append_getElem hi,List.map_append]
 have:l[i]=l.getD i 0:=by simp [List.getD,List.getElem?_eq_getElem hi]
 rw [this]; rfl
theorem xz {n e a:Nat} {f:Nat→Nat→Nat} {p:Nat→Bool} {x:Int} : x∈mf n f e a (aS n p)↔∃ y,y < n∧p y=true∧x=((gB n f e y a:Nat):Int):=by
 unfold mf
 rw [List.mem_map]
 constructor
 ·rintro ⟨z,hz,rfl⟩
  obtain ⟨y,y1,y2,rfl⟩:=cD.1 hz
  exact ⟨y,y1,y2,by simp⟩
 rintro ⟨y,y1,y2,rfl⟩
 exact ⟨_,(bm y1).2 y2,by simp⟩
theorem Eo {n e a:Nat} {f:Nat→Nat→Nat} (G:bB n f e) (p:Nat→Bool) (ha:a < n):mc (mf n f e a (aS n p))=bo n (gT n f e p a):=by
 refine Nat.eq_of_testBit_eq fun i=>?_
 rw [mb,dK,Bool.eq_iff_iff,decide_eq_true_eq,Bool.and_eq_true,decide_eq_true_eq,ya]
 constructor
 ·rintro ⟨x,hx,rfl⟩
  obtain ⟨y,y1,y2,rfl⟩:=xz.1 hx
  exact ⟨by simpa using G.ed y1 ha,y,y1,y2,by simp⟩
 rintro ⟨_,y,y1,y2,rfl⟩
 exact ⟨_,xz.2 ⟨y,y1,y2,rfl⟩,by simp⟩
theorem Dm {n e:Nat} {m:List Int} (h:GT n m n e) (p:Nat→Bool) {a:Nat} (ha:a < n):bR Tryd.prog 65 [gp n m,.int .u64 (bo n p),.int .i64 a] (.int .u64 (bo n (gT n (op m n) e p a))):=by
 have G:=h.2.2
 have hb:=h.2.1.big
 have hlp:=b9 n p
 refine aI ae Tryd.func65 rfl (by kernel_rfl) (by rw [Tryd.ntmps65]; exact Nat.le_add_left 3 _) ?_; rw [Tryd.ntmps65]
 refine qm ?_
 refine ab fun K hK=>aa ae ?_
 simp only [aj,fl,gp,ai,simprocAttr]
 refine af ?_ (hK _ ?_)<;>clear hK K
 ·first|exact trivial|omega|(simp only [ah] at *; omega)|(simp [ah] at *; omega)|simp_all
 refine qa (qm ?_)
 refine ab fun K hK=>aa ae ?_
 simp only [aj,fl,gp,ai,simprocAttr]
 refine af trivial (hK _ ?_)<;>clear hK K
 refine qa (qm (qm ?_))
 refine ab fun K hK=>aa ae ?_
 simp only [aj,fl,gp,ai,simprocAttr]
 refine an trivial (ak (mD (bo n p) (eR hb p)) rfl rfl rfl (by simp only [au,Nat.reduceLT]) (by repeat (first|exact trivial|constructor)) (aa ae ?_))
 simp only [aj,fl,gp,ai,simprocAttr,mY hb,aH]
 refine af trivial (hK _ ?_)<;>clear hK K
 refine qa (ql ?_)
 refine aA (ι:=Nat) (fun i=>⟨26,[(2,.p (.int .i64 a)),(3,.ptr 0 0),(7,.p (.int .u64 (mc (mf n (op m n) e a ((aS n p).take i))))),(11,.p (.list (il (aS n p)))),(12,.p (.int .i64 (aS n p).length)),(13,.p (.int .i64 i))],[.own [.p (.int .i64 n),.p (.list (il m))]]⟩) (fun i=>i≤(aS n p).length) (fun i=>(aS n p).length - i) 0 (Nat.zero_le _) [0] (by simp only [leq,bf,aj,fl,gp,ai,simprocAttr]<;>first|trivial|simp [mf,mc]) fun i hi=>?_
 refine qm ?_
 refine ab fun K hK=>aa ae ?_
 simp only [aj,fl,gp,ai,simprocAttr]
 refine af trivial (hK _ ?_)<;>clear hK K
 refine qa (qm ?_)
 refine ao rfl (fun hC1=>?_) (fun hC1=>?_)
 ·(try simp only [aG] at hC1)
  have hlt:i < (aS n p).length:=by omega
  obtain ⟨x,x1,x2,x3⟩:=eQ hlt
  have hc:=G.ed x1 ha
  have hp:=hU (b:=gB n (op m n) e x a) (by omega)
  have hall:∀ z∈mf n (op m n) e a ((aS n p).take i),z.toNat < n:=fun z hz=>by
   obtain ⟨w,hw,rfl⟩:=List.mem_map.1 hz
   obtain ⟨w',w1,w2⟩:=gk w (List.mem_of_mem_take hw)
   subst w2
   exact G.ed w1 ha
  have hm:=uT hb (mT hall)
  refine qh (qa (qm (ql (qm ?_))))
  refine ab fun K hK=>aa ae ?_
  simp only [aj,fl,gp,ai,simprocAttr,aL hlt,x3]
  refine af ?_ (hK _ ?_)<;>clear hK K
  ·first|exact trivial|omega|(simp only [ah] at *; omega)|(simp [ah] at *; omega)|simp_all
  refine qa ?_
  refine ab fun K hK=>aa ae ?_
  simp only [aj,fl,gp,ai,simprocAttr]
  refine an trivial (ak (vM h x1 ha) rfl rfl rfl (by simp only [au,Nat.reduceLT]) (by repeat (first|exact trivial|constructor)) (aa ae ?_))
  simp only [aj,fl,gp,ai,simprocAttr,iN (show gB n (op m n) e x a < 64 by omega),nP hm hp]
  refine af ?_ (hK _ ?_)<;>clear hK K
  ·first|exact trivial|omega|(simp only [ah] at *; omega)|(simp [ah] at *; omega)|simp_all
  refine qd (qa ?_)
  refine ab fun K hK=>aa ae ?_
  simp only [aj,fl,gp,ai,simprocAttr]
  refine af ?_ (hK _ ?_)<;>clear hK K
  ·first|exact trivial|omega|(simp only [ah] at *; omega)|(simp [ah] at *; omega)|simp_all
  refine qa ?_
  refine ⟨i + 1,[0],by omega,by omega,?_⟩
  rw [BH n (op m n) e a hlt,lS,x3]
  simp only [leq,bf,aj,fl,gp,ai,simprocAttr]<;>first|trivial|omega
 (try simp only [aG] at hC1)
 have hin:i=(aS n p).length:=by omega
 rw [hin,List.take_length,Eo G p ha]
 refine qj (qc (qc (qf (qa (qm ?_)))))
 refine ab fun K hK=>aa ae ?_
 simp only [aj,fl,gp,ai,simprocAttr]
 refine af trivial (hK _ ?_)<;>clear hK K
 refine qa (qk ?_)
 simp only [Tryd.results65,bG,aj,fl,gp,ai,simprocAttr]
 all_goals (rfl)
theorem qs {n e:Nat} {m:List Int} (h:GT n m n e) (p:Nat→Bool) {a:Nat} (ha:a < n):bR Tryd.prog 95 [.int .i64 a,.ptr [.int .i64 n,.list (il m)],.ptr [.list (il (aS n p))]] (.bool (Bh n (op m n) e p a)):=by
 have hb:=h.2.1.big
 have hlp:=b9 n p
 have hz:decide ((bo n (gT n (op m n) e p a):Int)=(bo n p:Int))=Bh n (op m n) e p a:=by
  rw [Bool.eq_iff_iff,decide_eq_true_eq,rO]
  exact ⟨fun he y hy=>sd (by omega) hy,fun he=>by rw [dh he]⟩
 refine aI ae Tryd.func95 rfl (by kernel_rfl) (by rw [Tryd.ntmps95]; exact Nat.le_add_left 3 _) ?_; rw [Tryd.ntmps95]
 refine qm ?_
 refine ab fun K hK=>aa ae ?_
 simp only [aj,fl,gp,ai,simprocAttr]
 refine af trivial (hK _ ?_)<;>clear hK K
 refine qa (qm ?_)
 refine aT mixed (by kernel_rfl) fun K hK=>aa ae ?_
 simp only [aj,fl,gp,ai,simprocAttr]
 refine an trivial (ak (zd (aS n p) (by omega) (kd hb p)) rfl rfl rfl (by simp only [au,Nat.reduceLT]) (by repeat (first|exact trivial|constructor)) (aa ae ?_))
 simp only [aj,fl,gp,ai,simprocAttr,lq]
 refine an trivial (ak (Dm h p ha) rfl rfl rfl (by simp only [au,Nat.reduceLT]) (by repeat (first|exact trivial|constructor)) (aa ae ?_))
 simp only [aj,fl,gp,ai,simprocAttr]
 refine an trivial (ak (zd (aS n p) (by omega) (kd hb p)) rfl rfl rfl (by simp only [au,Nat.reduceLT]) (by repeat (first|exact trivial|constructor)) (aa ae ?_))
 simp only [aj,fl,gp,ai,simprocAttr]
 refine af ?_ (hK _ ?_)<;>clear hK K
 ·first|exact trivial|omega|(simp only [ah] at *; omega)|(simp [ah] at *; omega)|simp_all
 refine qa (qk ?_)
 simp only [Tryd.results95,bG,aj,fl,gp,ai,simprocAttr]
 all_goals (exact hz)
theorem qy {n e:Nat} {m:List Int} (h:GT n m n e) (p:Nat→Bool) (hs:Sub n (op m n) e p):bR Tryd.prog 69 [gp n m,.list (il (aS n p))] (.tup [.list (il (aS n (Bh n (op m n) e p))),fl (0,0)]):=by
 have hb:=h.2.1.big
 refine aI ae Tryd.func69 rfl (by kernel_rfl) (by rw [Tryd.ntmps69]; exact Nat.le_add_left 2 _) ?_; rw [Tryd.ntmps69]
 refine qm ?_
 refine ab fun K hK=>aa ae ?_
 simp only [aj,fl,gp,ai,simprocAttr]
 refine af ?_ (hK _ ?_)<;>clear hK K
 ·first|exact trivial|omega|(simp only [ah] at *; omega)|(simp [ah] at *; omega)|simp_all
 refine qa (qm (qm ?_))
 refine ab fun K hK=>aa ae ?_
 simp only [aj,fl,gp,ai,simprocAttr]
 refine an trivial (ak (tg h p true (by simp [hs])) rfl rfl rfl (by simp only [au,Nat.reduceLT]) (by repeat (first|exact trivial|constructor)) (aa ae ?_))
 simp only [aj,fl,gp,ai,simprocAttr,Jt]
 refine af ?_ (hK _ ?_)<;>clear hK K
 ·first|exact trivial|omega|(simp only [ah] at *; omega)|(simp [ah] at *; omega)|simp_all
 refine qa (qm ?_)
 refine ab fun K hK=>aa ae ?_
 simp only [aj,fl,gp,ai,simprocAttr]
 refine af ?_ (hK _ ?_)<;>clear hK K
 ·first|exact trivial|omega|(simp only [ah] at *; omega)|(simp [ah] at *; omega)|simp_all
 refine qa ?_
 refine ao rfl (fun hC1=>?_) (fun hC1=>?_)
 ·cases hC1
 (try simp only [aG] at hC1)
 refine qh (qa (qm ?_))
 refine bO 0 rfl rfl ?_
 refine bO 1 rfl rfl ?_
 simp only [aE]
 refine ab fun K hK=>aa ae ?_
 simp only [aj,fl,gp,ai,simprocAttr]
 refine an trivial (ak (Bl n m _ _ (Bh n (op m n) e p) (by omega) (fun a ha=>qs h p ha)) rfl rfl rfl (by simp only [au,Nat.reduceLT]) (by repeat (first|exact trivial|constructor)) (aa ae ?_))
 simp only [aj,fl,gp,ai,simprocAttr]
 refine af ?_ (hK _ ?_)<;>clear hK K
 ·first|exact trivial|omega|(simp only [ah] at *; omega)|(simp [ah] at *; omega)|simp_all
 refine qa (qk ?_)
 simp only [Tryd.results69,bG,aj,fl,gp,ai,simprocAttr]
 all_goals ((first|exact rfl|exact ⟨rfl,rfl⟩|exact ⟨rfl,rfl,rfl⟩|exact ⟨trivial,rfl⟩|exact ⟨Nat.le_refl _,rfl⟩|trivial|(simp; done)))
theorem yP {n e:Nat} {m:List Int} (h:GT n m n e) (p:Nat→Bool) (hs:Sub n (op m n) e p) (b:Bool) (hb' : b=true↔vN n (op m n) e p):bR Tryd.prog 34 [gp n m,.list (il (aS n p))] (.tup [.bool b,fl (0,0)]):=by
 have hb:=h.2.1.big
 have hl:=b9 n (Bh n (op m n) e p)
 have hz:decide (((aS n (Bh n (op m n) e p)).length:Int)=(n:Int))=b:=by
  rw [Bool.eq_iff_iff,decide_eq_true_eq,hb',h.2.2.DY,← xf]
  have:(aS n (Bh n (op m n) e p)).length=(mem n (Bh n (op m n) e p)).length:=xA _ _
  omega
 refine aI ae Tryd.func34 rfl (by kernel_rfl) (by rw [Tryd.ntmps34]; exact Nat.le_add_left 2 _) ?_; rw [Tryd.ntmps34]
 refine qm ?_
 refine ab fun K hK=>aa ae ?_
 simp only [aj,fl,gp,ai,simprocAttr]
 refine af ?_ (hK _ ?_)<;>clear hK K
 ·first|exact trivial|omega|(simp only [ah] at *; omega)|(simp [ah] at *; omega)|simp_all
 refine qa (qm ?_)
 refine ab fun K hK=>aa ae ?_
 simp only [aj,fl,gp,ai,simprocAttr]
 refine an trivial (ak (qy h p hs) rfl rfl rfl (by simp only [au,Nat.reduceLT]) (by repeat (first|exact trivial|constructor)) (aa ae ?_))
 simp only [aj,fl,gp,ai,simprocAttr]
 refine af ?_ (hK _ ?_)<;>clear hK K
 ·first|exact trivial|omega|(simp only [ah] at *; omega)|(simp [ah] at *; omega)|simp_all
 refine qa (qm ?_)
 refine aT mixed (by kernel_rfl) fun K hK=>aa ae ?_
 simp only [aj,fl,gp,ai,simprocAttr,aH]
 refine af ?_ (hK _ ?_)<;>clear hK K
 ·first|exact trivial|omega|(simp only [ah] at *; omega)|(simp [ah] at *; omega)|simp_all
 refine qa (qk ?_)
 simp only [Tryd.results34,bG,aj,fl,gp,ai,simprocAttr]
 all_goals (rw [hz])
def Jc (a b:PV):Prop:=∀ (ok:Nat→Prop) (w:World) (v:Value),Reads ok w a v→Reads ok w b v
theorem Jc.rfl {a:PV} : Jc a a:=fun _ _ _ h=>h
theorem Jc.nn {l:List PV} : Jc (.nn l) (.list l):=fun _ _ _ h=>h.sg
set_option maxHeartbeats 2000000 in
theorem Al (n:Nat) (hb:n≤60) (F:FuncId) (caps:List PV) (r:Nat→Nat→Bool) (E:p9 n r) (hF:∀ a,a < n→bR Tryd.prog F (.int .i64 a :: caps) (.int .u64 (bo n (r a)))):bR Tryd.prog 97 [.int .i64 n,.fn F caps] (.list (ll (bA n r))):=by
 have hz:bo n (dJ r 0)=0:=by
  have h1:bo n (dJ r 0)=bo n fun _=>false:=dh fun a _=>by simp [dJ]
  rw [h1,sj]
 have hlead:∀ x,x < n→lead r x = !dJ r x x:=by
  intro x hx
  rw [Bool.eq_iff_iff,fZ,Bool.not_eq_true']
  unfold dJ
  rw [decide_eq_false_iff_not]
  constructor
  ·rintro ⟨_,h2⟩ ⟨z,z1,z2⟩
   have:=E.symm z x (by omega) hx z2
   rw [h2 z z1] at this; cases this
  intro h1
  refine ⟨E.refl x hx,fun b hb'=>?_⟩
  cases hv:r x b with
  | false=>rfl
  | true=>exact absurd ⟨b,hb',E.symm x b hx (by omega) hv⟩ h1
 refine aI ae Tryd.func97 rfl (by kernel_rfl) (by rw [Tryd.ntmps97]; exact Nat.le_add_left 2 _) ?_; rw [Tryd.ntmps97]
 refine qm ?_
 refine ab fun K hK=>aa ae ?_
 simp only [aj,fl,gp,ai,simprocAttr]
 refine af trivial (hK _ ?_)<;>clear hK K
 refine qa (qm ?_)
 refine ab fun K hK=>aa ae ?_
 simp only [aj,fl,gp,ai,simprocAttr]
 refine af trivial (hK _ ?_)<;>clear hK K
 refine qa (qm ?_)
 refine bN 5 rfl ?_
 refine ab fun K hK=>aa ae ?_
 simp only [aj,fl,gp,ai,simprocAttr]
 refine af trivial (hK _ ?_)<;>clear hK K
 refine qa (qm (qm ?_))
 refine ab fun K hK=>aa ae ?_
 simp only [aj,fl,gp,ai,simprocAttr]
 refine af trivial (hK _ ?_)<;>clear hK K
 refine qa (ql ?_)
 refine aA (ι:=Nat) (fun x=>⟨29,[(1,.p (.fn F caps)),(5,.sl 0 0 (eE n r x).length),(6,.p (.int .u64 (bo n (dJ r x)))),(9,.p (.int .i64 n)),(10,.p (.int .i64 x))],[.own (bF (ll (eE n r x)))]⟩) (fun x=>x≤n) (fun x=>n - x) 0 (Nat.zero_le _) [0] (by simp only [leq,bf,aj,fl,gp,ai,simprocAttr,aY,bL,cX]<;>first|trivial|(simp [eE,ll,bF,hz]; done)|(simp [eE,ll,bF]; done)) fun x hx=>?_
 have hlen:=fi n r x
 have hll:=aw (eE n r x)
 refine qm ?_
 refine ab fun K hK=>aa ae ?_
 simp only [aj,fl,gp,ai,simprocAttr]
 refine af trivial (hK _ ?_)<;>clear hK K
 refine qa (qm ?_)
 refine ao rfl (fun hC1=>?_) (fun hC1=>?_)
 ·(try simp only [aG] at hC1)
  have hlt:x < n:=by omega
  have hs:=mV n r x
  have hhb:(bo n (dJ r x)).testBit x=dJ r x x:=by rw [dK]; simp [hlt]
  have hb1:=eR hb (dJ r x)
  have hb2:=eR hb (r x)
  refine qh (qa (qm (ql (qm ?_))))
  refine ab fun K hK=>aa ae ?_
  simp only [aj,fl,gp,ai,simprocAttr]
  refine af trivial (hK _ ?_)<;>clear hK K
  refine qa (qm (qm ?_))
  refine ab fun K hK=>aa ae ?_
  simp only [aj,fl,gp,ai,simprocAttr]
  refine an trivial (ak (B9 (bo n (dJ r x)) x hb1 (by omega)) rfl rfl rfl (by simp only [au,Nat.reduceLT]) (by repeat (first|exact trivial|constructor)) (aa ae ?_))
  simp only [aj,fl,gp,ai,simprocAttr,hhb]
  refine af trivial (hK _ ?_)<;>clear hK K
  refine qa ?_
  refine ao rfl (fun hC2=>?_) (fun hC2=>?_)
  ·(try simp only [aG] at hC2)
   have hld:lead r x=false:=by rw [hlead x hlt,hC2]; rfl
   rw [if_neg (by rw [hld]; simp),List.append_nil] at hs
   have hh:bo n (dJ r (x + 1))=bo n (dJ r x):=dh fun y hy=>by
    unfold dJ at hC2 ⊢
    rw [decide_eq_true_eq] at hC2
    refine decide_eq_decide.2 ⟨?_,fun ⟨z,z1,z2⟩=>⟨z,by omega,z2⟩⟩
    rintro ⟨z,z1,z2⟩
    by_cases hzx:z=x
    ·subst hzx
     obtain ⟨w,w1,w2⟩:=hC2
     exact ⟨w,w1,E.trans w z y (by omega) hlt hy w2 z2⟩
    exact ⟨z,by omega,z2⟩
   refine qj (qc (qf (qa ?_)))
   refine ab fun K hK=>aa ae ?_
   simp only [aj,fl,gp,ai,simprocAttr]
   refine af ?_ (hK _ ?_)<;>clear hK K
   ·first|exact trivial|omega|(simp only [ah] at *; omega)|(simp [ah] at *; omega)|simp_all
   refine qa ?_
   refine ⟨x + 1,[0],by omega,by omega,?_⟩
   rw [hs,hh]
   simp only [leq,bf,aj,fl,gp,ai,simprocAttr,aY,bL,cX]<;>first|trivial|omega
  (try simp only [aG] at hC2)
  have hld:lead r x=true:=by rw [hlead x hlt,hC2]; rfl
  rw [if_pos hld] at hs
  have hh:bo n (dJ r (x + 1))=bo n (fun y=>dJ r x y || r x y):=dh fun y hy=>by
   unfold dJ
   rw [Bool.eq_iff_iff,Bool.or_eq_true,decide_eq_true_eq,decide_eq_true_eq]
   constructor
   ·rintro ⟨z,z1,z2⟩
    by_cases hzx:z=x
    ·subst hzx; exact .inr z2
    exact .inl ⟨z,by omega,z2⟩
   rintro (⟨z,z1,z2⟩ | h')
   ·exact ⟨z,by omega,z2⟩
   exact ⟨x,by omega,h'⟩
  refine qh (qa (qm ?_))
  refine ab fun K hK=>aa ae ?_
  simp only [aj,fl,gp,ai,simprocAttr]
  refine an trivial (ak (hF x hlt) rfl rfl rfl (by simp only [au,Nat.reduceLT]) (by repeat (first|exact trivial|constructor)) (aa ae ?_))
  simp only [aj,fl,gp,ai,simprocAttr]
  refine af trivial (hK _ ?_)<;>clear hK K
  refine qa (qm ?_)
  refine ab fun K hK=>aa ae ?_
  simp only [aj,fl,gp,ai,simprocAttr,nP hb1 hb2,EM]
  refine af ?_ (hK _ ?_)<;>clear hK K
  ·first|exact trivial|omega|(simp only [ah] at *; omega)|(simp [ah] at *; omega)|simp_all
  refine qa ?_
  refine ab fun K hK=>aa ae ?_
  simp only [aj,fl,gp,ai,simprocAttr,aY,kU,bL]
  refine an trivial (ak (mD (bo n (r x)) hb2) rfl rfl rfl (by simp only [au,Nat.reduceLT]) (by repeat (first|exact trivial|constructor)) (aa ae ?_))
  simp only [aj,fl,gp,ai,simprocAttr,mY hb,aY,kU,bL]
  refine af ?_ (hK _ ?_)<;>clear hK K
  ·first|exact trivial|omega|(simp only [ah] at *; omega)|(simp [ah] at *; omega)|simp_all
  refine qd (qa ?_)
  refine ab fun K hK=>aa ae ?_
  simp only [aj,fl,gp,ai,simprocAttr]
  refine af ?_ (hK _ ?_)<;>clear hK K
  ·first|exact trivial|omega|(simp only [ah] at *; omega)|(simp [ah] at *; omega)|simp_all
  refine qa ?_
  refine ⟨x + 1,[1],by omega,by omega,?_⟩
  rw [hs,hh]
  simp only [leq,bf,aj,fl,gp,ai,simprocAttr,aY,bL,cX]<;>first|trivial|omega|(simp [ll]; done)
 (try simp only [aG] at hC1)
 have hxn:x=n:=by omega
 subst hxn
 rw [← aw (eE x r x)]
 refine lr 5 0 (iz _) rfl rfl ?_
 refine qj (qc (qc (qf (qa (qm ?_)))))
 refine ab fun K hK=>aa ae ?_
 simp only [aj,fl,gp,ai,simprocAttr]
 refine af trivial (hK _ ?_)<;>clear hK K
 refine qa (qk ?_)
 simp only [Tryd.results97,bG,aj,fl,gp,ai,simprocAttr]
 all_goals (rfl)
def EF (f:Nat→Nat→Nat) (x a:Nat) (lm:List Int):List Int:=lm.map fun y=>((f (f x a) y.toNat:Nat):Int)
def Cr (f:Nat→Nat→Nat) (a:Nat) (l lm:List Int):List Int:=l.flatMap fun x=>EF f x.toNat a lm
theorem Bc (f:Nat→Nat→Nat) (a:Nat) {l:List Int} (lm:List Int) {i:Nat} (hi:i < l.length):Cr f a (l.take (i + 1)) lm=Cr f a (l.take i) lm++EF f (l.getD i 0).toNat a lm:=by
 unfold Cr
 rw [List.take_succ_eq_append_getElem hi,List.flatMap_append]
 congr 1
 have:l[i]=l.getD i 0:=by simp [List.getD,List.getElem?_eq_getElem hi]
 rw [this]; simp
theorem zR (f:Nat→Nat→Nat) (x a:Nat) {lm:List Int} {j:Nat} (hj:j < lm.length):EF f x a (lm.take (j + 1))=EF f x a (lm.take j)++[((f (f x a) (lm.getD j 0).toNat:Nat):Int)]:=by
 unfold EF
 rw [List.take_succ_eq_append_getElem hj,List.map_append]
 have:lm[j]=lm.getD j 0:=by simp [List.getD,List.getElem?_eq_getElem hj]
 rw [this]; rfl
theorem wW {n a:Nat} {f:Nat→Nat→Nat} {p q:Nat→Bool} {z:Int} : z∈Cr f a (aS n p) (aS n q)↔∃ x y,x < n∧y < n∧p x=true∧q y=true∧z=((f (f x a) y:Nat):Int):=by
 unfold Cr EF
 rw [List.mem_flatMap]
 constructor
 ·rintro ⟨u,hu,hz⟩
  obtain ⟨v,hv,rfl⟩:=List.mem_map.1 hz
  obtain ⟨x,x1,x2,rfl⟩:=cD.1 hu
  obtain ⟨y,y1,y2,rfl⟩:=cD.1 hv
  exact ⟨x,y,x1,y1,x2,y2,by simp⟩
 rintro ⟨x,y,x1,y1,x2,y2,rfl⟩
 exact ⟨_,(bm x1).2 x2,List.mem_map.2 ⟨_,(bm y1).2 y2,by simp⟩⟩
theorem Dz {n e a:Nat} {f:Nat→Nat→Nat} (G:bB n f e) (p q:Nat→Bool) (ha:a < n):mc (Cr f a (aS n p) (aS n q))=bo n (kN n f p q a):=by
 refine Nat.eq_of_testBit_eq fun i=>?_
 rw [mb,dK,Bool.eq_iff_iff,decide_eq_true_eq,Bool.and_eq_true,decide_eq_true_eq,eU]
 constructor
 ·rintro ⟨z,hz,rfl⟩
  obtain ⟨x,y,x1,y1,x2,y2,rfl⟩:=wW.1 hz
  exact ⟨by simpa using G.cl _ _ (G.cl _ _ x1 ha) y1,x,y,x1,y1,x2,y2,by simp⟩
 rintro ⟨_,x,y,x1,y1,x2,y2,rfl⟩
 exact ⟨_,wW.2 ⟨x,y,x1,y1,x2,y2,rfl⟩,by simp⟩
theorem yK {n e:Nat} {m:List Int} (h:GT n m n e) (p q:Nat→Bool) {a:Nat} (ha:a < n):bR Tryd.prog 99 [gp n m,.list (il (aS n p)),.int .i64 a,.list (il (aS n q))] (.int .u64 (bo n (kN n (op m n) p q a))):=by
 have G:=h.2.2
 have hb:=h.2.1.big
 have hlp:=b9 n p
 have hlq:=b9 n q
 refine aI ae Tryd.func99 rfl (by kernel_rfl) (by rw [Tryd.ntmps99]; exact Nat.le_add_left 4 _) ?_; rw [Tryd.ntmps99]
 refine qm ?_
 refine ab fun K hK=>aa ae ?_
 simp only [aj,fl,gp,ai,simprocAttr]
 refine af ?_ (hK _ ?_)<;>clear hK K
 ·first|exact trivial|omega|(simp only [ah] at *; omega)|(simp [ah] at *; omega)|simp_all
 refine qa (qm ?_)
 refine ab fun K hK=>aa ae ?_
 simp only [aj,fl,gp,ai,simprocAttr]
 refine af trivial (hK _ ?_)<;>clear hK K
 refine qa (qm (qm ?_))
 refine ab fun K hK=>aa ae ?_
 simp only [aj,fl,gp,ai,simprocAttr,aH]
 refine af trivial (hK _ ?_)<;>clear hK K
 refine qa (ql ?_)
 refine aA (ι:=Nat) (fun i=>⟨39,[(2,.p (.int .i64 a)),(3,.p (.list (il (aS n q)))),(4,.ptr 0 0),(9,.p (.int .u64 (mc (Cr (op m n) a ((aS n p).take i) (aS n q))))),(14,.p (.list (il (aS n p)))),(15,.p (.int .i64 (aS n p).length)),(16,.p (.int .i64 i))],[.own [.p (.int .i64 n),.p (.list (il m))]]⟩) (fun i=>i≤(aS n p).length) (fun i=>(aS n p).length - i) 0 (Nat.zero_le _) [0] (by simp only [leq,bf,aj,fl,gp,ai,simprocAttr]<;>first|trivial|simp [Cr,mc]) fun i hi=>?_
 refine qm ?_
 refine ab fun K hK=>aa ae ?_
 simp only [aj,fl,gp,ai,simprocAttr]
 refine af trivial (hK _ ?_)<;>clear hK K
 refine qa (qm ?_)
 refine ao rfl (fun hC1=>?_) (fun hC1=>?_)
 ·(try simp only [aG] at hC1)
  have hlt:i < (aS n p).length:=by omega
  obtain ⟨x,x1,x2,x3⟩:=eQ hlt
  refine qh (qa (qm (ql (qm ?_))))
  refine ab fun K hK=>aa ae ?_
  simp only [aj,fl,gp,ai,simprocAttr,aL hlt,x3]
  refine af ?_ (hK _ ?_)<;>clear hK K
  ·first|exact trivial|omega|(simp only [ah] at *; omega)|(simp [ah] at *; omega)|simp_all
  refine qa (qm ?_)
  refine ab fun K hK=>aa ae ?_
  simp only [aj,fl,gp,ai,simprocAttr,aH]
  refine af trivial (hK _ ?_)<;>clear hK K
  refine qa (ql ?_)
  refine aA (ι:=Nat) (fun j=>⟨39,[(2,.p (.int .i64 a)),(3,.p (.list (il (aS n q)))),(4,.ptr 0 0),(9,.p (.int .u64 (mc (Cr (op m n) a ((aS n p).take i) (aS n q)++EF (op m n) x a ((aS n q).take j))))),(11,.p (.int .i64 x)),(14,.p (.list (il (aS n p)))),(15,.p (.int .i64 (aS n p).length)),(16,.p (.int .i64 i)),(20,.p (.list (il (aS n q)))),(21,.p (.int .i64 (aS n q).length)),(22,.p (.int .i64 j))],[.own [.p (.int .i64 n),.p (.list (il m))]]⟩) (fun j=>j≤(aS n q).length) (fun j=>(aS n q).length - j) 0 (Nat.zero_le _) [0] (by simp only [leq,bf,aj,fl,gp,ai,simprocAttr]<;>first|trivial|simp [EF]) fun j hj=>?_
  refine qm ?_
  refine ab fun K hK=>aa ae ?_
  simp only [aj,fl,gp,ai,simprocAttr]
  refine af trivial (hK _ ?_)<;>clear hK K
  refine qa (qm ?_)
  refine ao rfl (fun hC2=>?_) (fun hC2=>?_)
  ·(try simp only [aG] at hC2)
   have hjl:j < (aS n q).length:=by omega
   obtain ⟨y,y1,y2,y3⟩:=eQ hjl
   have hxa:=G.cl _ _ x1 ha
   have hc:=G.cl _ _ hxa y1
   have hp:=hU (b:=op m n (op m n x a) y) (by omega)
   have hall:∀ z∈Cr (op m n) a ((aS n p).take i) (aS n q)++EF (op m n) x a ((aS n q).take j),z.toNat < n:=fun z hz=>by
    rcases List.mem_append.1 hz with hz | hz
    ·obtain ⟨u,hu,hv⟩:=List.mem_flatMap.1 hz
     obtain ⟨w,hw,rfl⟩:=List.mem_map.1 hv
     obtain ⟨u',u1,u2⟩:=gk u (List.mem_of_mem_take hu)
     obtain ⟨w',w1,w2⟩:=gk w hw
     subst u2; subst w2
     exact G.cl _ _ (G.cl _ _ u1 ha) w1
    obtain ⟨w,hw,rfl⟩:=List.mem_map.1 hz
    obtain ⟨w',w1,w2⟩:=gk w (List.mem_of_mem_take hw)
    subst w2
    exact G.cl _ _ hxa w1
   have hm:=uT hb (mT hall)
   refine qh (qa (qm (ql (qm ?_))))
   refine ab fun K hK=>aa ae ?_
   simp only [aj,fl,gp,ai,simprocAttr,aL hjl,y3]
   refine af ?_ (hK _ ?_)<;>clear hK K
   ·first|exact trivial|omega|(simp only [ah] at *; omega)|(simp [ah] at *; omega)|simp_all
   refine qa ?_
   refine aT mixed (by kernel_rfl) fun K hK=>aa ae ?_
   simp only [aj,fl,gp,ai,simprocAttr]
   refine an trivial (ak (jt h.2.1 x1 ha) rfl rfl rfl (by simp only [au,Nat.reduceLT]) (by repeat (first|exact trivial|constructor)) (aa ae ?_))
   simp only [aj,fl,gp,ai,simprocAttr]
   refine an trivial (ak (jt h.2.1 hxa y1) rfl rfl rfl (by simp only [au,Nat.reduceLT]) (by repeat (first|exact trivial|constructor)) (aa ae ?_))
   simp only [aj,fl,gp,ai,simprocAttr,iN (show op m n (op m n x a) y < 64 by omega),nP hm hp]
   refine af ?_ (hK _ ?_)<;>clear hK K
   ·first|exact trivial|omega|(simp only [ah] at *; omega)|(simp [ah] at *; omega)|simp_all
   refine qd (qa ?_)
   refine ab fun K hK=>aa ae ?_
   simp only [aj,fl,gp,ai,simprocAttr]
   refine af ?_ (hK _ ?_)<;>clear hK K
   ·first|exact trivial|omega|(simp only [ah] at *; omega)|(simp [ah] at *; omega)|simp_all
   refine qa ?_
   refine ⟨j + 1,[0],by omega,by omega,?_⟩
   rw [zR (op m n) x a hjl,← List.append_assoc,lS,y3]
   simp only [leq,bf,aj,fl,gp,ai,simprocAttr]<;>first|trivial|omega
  (try simp only [aG] at hC2)
  have hjn:j=(aS n q).length:=by omega
  rw [hjn,List.take_length]
  refine qj (qc (qc (qf (qd (qa ?_)))))
  refine ab fun K hK=>aa ae ?_
  simp only [aj,fl,gp,ai,simprocAttr]
  refine af ?_ (hK _ ?_)<;>clear hK K
  ·first|exact trivial|omega|(simp only [ah] at *; omega)|(simp [ah] at *; omega)|simp_all
  refine qa ?_
  refine ⟨i + 1,[0],by omega,by omega,?_⟩
  rw [Bc (op m n) a (aS n q) hlt,x3]
  simp only [leq,bf,aj,fl,gp,ai,simprocAttr]<;>first|trivial|omega
 (try simp only [aG] at hC1)
 have hin:i=(aS n p).length:=by omega
 rw [hin,List.take_length,Dz G p q ha]
 refine qj (qc (qc (qf (qa (qm ?_)))))
 refine ab fun K hK=>aa ae ?_
 simp only [aj,fl,gp,ai,simprocAttr]
 refine af trivial (hK _ ?_)<;>clear hK K
 refine qa (qk ?_)
 simp only [Tryd.results99,bG,aj,fl,gp,ai,simprocAttr]
 all_goals (rfl)
theorem Im {n e:Nat} {m:List Int} (h:GT n m n e):bR Tryd.prog 100 [gp n m] (.list (il (aS n (ko e)))):=by
 have ht:aS n (ko e)=[(e:Int)]:=DN h.2.2.el
 refine aI ae Tryd.func100 rfl (by kernel_rfl) (by rw [Tryd.ntmps100]; exact Nat.le_add_left 1 _) ?_; rw [Tryd.ntmps100]
 refine qm ?_
 refine ab fun K hK=>aa ae ?_
 simp only [aj,fl,gp,ai,simprocAttr]
 refine af ?_ (hK _ ?_)<;>clear hK K
 ·first|exact trivial|omega|(simp only [ah] at *; omega)|(simp [ah] at *; omega)|simp_all
 refine qa (qm ?_)
 refine ab fun K hK=>aa ae ?_
 simp only [aj,fl,gp,ai,simprocAttr]
 refine an trivial (ak (jV h) rfl rfl rfl (by simp only [au,Nat.reduceLT]) (by repeat (first|exact trivial|constructor)) (aa ae ?_))
 simp only [aj,fl,gp,ai,simprocAttr]
 refine af ?_ (hK _ ?_)<;>clear hK K
 ·first|exact trivial|omega|(simp only [ah] at *; omega)|(simp [ah] at *; omega)|simp_all
 refine qa (qk ?_)
 simp only [Tryd.results100,bG,aj,fl,gp,ai,simprocAttr]
 all_goals (rw [ht]; rfl)
theorem Aw {n e:Nat} {m:List Int} (h:GT n m n e) (p:Nat→Bool) {a:Nat} (ha:a < n):bR Tryd.prog 98 [.int .i64 a,.ptr [.int .i64 n,.list (il m)],.ptr [.list (il (aS n p))]] (.int .u64 (bo n (kN n (op m n) p (ko e) a))):=by
 refine aI ae Tryd.func98 rfl (by kernel_rfl) (by rw [Tryd.ntmps98]; exact Nat.le_add_left 3 _) ?_; rw [Tryd.ntmps98]
 refine qm ?_
 refine ab fun K hK=>aa ae ?_
 simp only [aj,fl,gp,ai,simprocAttr]
 refine af trivial (hK _ ?_)<;>clear hK K
 refine qa (qm ?_)
 refine aT mixed (by kernel_rfl) fun K hK=>aa ae ?_
 simp only [aj,fl,gp,ai,simprocAttr]
 refine an trivial (ak (Im h) rfl rfl rfl (by simp only [au,Nat.reduceLT]) (by repeat (first|exact trivial|constructor)) (aa ae ?_))
 simp only [aj,fl,gp,ai,simprocAttr]
 refine an trivial (ak (yK h p (ko e) ha) rfl rfl rfl (by simp only [au,Nat.reduceLT]) (by repeat (first|exact trivial|constructor)) (aa ae ?_))
 simp only [aj,fl,gp,ai,simprocAttr]
 refine af ?_ (hK _ ?_)<;>clear hK K
 ·first|exact trivial|omega|(simp only [ah] at *; omega)|(simp [ah] at *; omega)|simp_all
 refine qa (qk ?_)
 simp only [Tryd.results98,bG,aj,fl,gp,ai,simprocAttr]
 all_goals (rfl)
theorem Ag {n e:Nat} {m:List Int} (h:GT n m n e) (p:Nat→Bool) (hs:Sub n (op m n) e p):bR Tryd.prog 71 [gp n m,.list (il (aS n p))] (.tup [.list (ll (bA n (kN n (op m n) p (ko e)))),fl (0,0)]):=by
 have G:=h.2.2
 have hb:=h.2.1.big
 refine aI ae Tryd.func71 rfl (by kernel_rfl) (by rw [Tryd.ntmps71]; exact Nat.le_add_left 2 _) ?_; rw [Tryd.ntmps71]
 refine qm ?_
 refine ab fun K hK=>aa ae ?_
 simp only [aj,fl,gp,ai,simprocAttr]
 refine af ?_ (hK _ ?_)<;>clear hK K
 ·first|exact trivial|omega|(simp only [ah] at *; omega)|(simp [ah] at *; omega)|simp_all
 refine qa (qm (qm ?_))
 refine ab fun K hK=>aa ae ?_
 simp only [aj,fl,gp,ai,simprocAttr]
 refine an trivial (ak (tg h p true (by simp [hs])) rfl rfl rfl (by simp only [au,Nat.reduceLT]) (by repeat (first|exact trivial|constructor)) (aa ae ?_))
 simp only [aj,fl,gp,ai,simprocAttr,Jt]
 refine af ?_ (hK _ ?_)<;>clear hK K
 ·first|exact trivial|omega|(simp only [ah] at *; omega)|(simp [ah] at *; omega)|simp_all
 refine qa (qm ?_)
 refine ab fun K hK=>aa ae ?_
 simp only [aj,fl,gp,ai,simprocAttr]
 refine af ?_ (hK _ ?_)<;>clear hK K
 ·first|exact trivial|omega|(simp only [ah] at *; omega)|(simp [ah] at *; omega)|simp_all
 refine qa ?_
 refine ao rfl (fun hC1=>?_) (fun hC1=>?_)
 ·cases hC1
 (try simp only [aG] at hC1)
 refine qh (qa (qm ?_))
 refine bO 0 rfl rfl ?_
 refine bO 1 rfl rfl ?_
 simp only [aE]
 refine ab fun K hK=>aa ae ?_
 simp only [aj,fl,gp,ai,simprocAttr]
 refine an trivial (ak (Al n hb _ _ (kN n (op m n) p (ko e)) (G.sA hs G.sk) (fun a ha=>Aw h p ha)) rfl rfl rfl (by simp only [au,Nat.reduceLT]) (by repeat (first|exact trivial|constructor)) (aa ae ?_))
 simp only [aj,fl,gp,ai,simprocAttr]
 refine af ?_ (hK _ ?_)<;>clear hK K
 ·first|exact trivial|omega|(simp only [ah] at *; omega)|(simp [ah] at *; omega)|simp_all
 refine qa (qk ?_)
 simp only [Tryd.results71,bG,aj,fl,gp,ai,simprocAttr]
 all_goals ((first|exact rfl|exact ⟨rfl,rfl⟩|exact ⟨rfl,rfl,rfl⟩|exact ⟨trivial,rfl⟩|exact ⟨Nat.le_refl _,rfl⟩|trivial|(simp; done)))
def J0 (b:Bool):Int × Int:=bif b then (0,0) else (4,0)
theorem Fj:J0 true=(0,0):=rfl
theorem Be (c a:Int):bR Tryd.prog 96 [.int .i64 c,.int .i64 a] (fl (c,a)):=by
 refine aI ae Tryd.func96 rfl (by kernel_rfl) (by rw [Tryd.ntmps96]; exact Nat.le_add_left 2 _) ?_; rw [Tryd.ntmps96]
 refine qm ?_
 refine ab fun K hK=>aa ae ?_
 simp only [aj,fl,gp,ai,simprocAttr]
 refine af ?_ (hK _ ?_)<;>clear hK K
 ·first|exact trivial|omega|(simp only [ah] at *; omega)|(simp [ah] at *; omega)|simp_all
 refine qa (qm ?_)
 refine ab fun K hK=>aa ae ?_
 simp only [aj,fl,gp,ai,simprocAttr]
 refine af ?_ (hK _ ?_)<;>clear hK K
 ·first|exact trivial|omega|(simp only [ah] at *; omega)|(simp [ah] at *; omega)|simp_all
 refine qa (qk ?_)
 simp only [Tryd.results96,bG,aj,fl,gp,ai,simprocAttr]
 all_goals ((first|exact rfl|exact ⟨rfl,rfl⟩|exact ⟨rfl,rfl,rfl⟩|exact ⟨trivial,rfl⟩|exact ⟨Nat.le_refl _,rfl⟩|trivial|(simp; done)))
theorem Ab {n e:Nat} {m:List Int} (h:GT n m n e) (p:Nat→Bool) (hs:Sub n (op m n) e p) (b:Bool) (hb' : b=true↔vN n (op m n) e p):bR Tryd.prog 70 [gp n m,.list (il (aS n p))] (fl (J0 b)):=by
 refine aI ae Tryd.func70 rfl (by kernel_rfl) (by rw [Tryd.ntmps70]; exact Nat.le_add_left 2 _) ?_; rw [Tryd.ntmps70]
 refine qm ?_
 refine ab fun K hK=>aa ae ?_
 simp only [aj,fl,gp,ai,simprocAttr]
 refine af ?_ (hK _ ?_)<;>clear hK K
 ·first|exact trivial|omega|(simp only [ah] at *; omega)|(simp [ah] at *; omega)|simp_all
 refine qa (qm ?_)
 refine ab fun K hK=>aa ae ?_
 simp only [aj,fl,gp,ai,simprocAttr]
 refine an trivial (ak (yP h p hs b hb') rfl rfl rfl (by simp only [au,Nat.reduceLT]) (by repeat (first|exact trivial|constructor)) (aa ae ?_))
 simp only [aj,fl,gp,ai,simprocAttr]
 refine af ?_ (hK _ ?_)<;>clear hK K
 ·first|exact trivial|omega|(simp only [ah] at *; omega)|(simp [ah] at *; omega)|simp_all
 refine qa (qm (qm ?_))
 refine ab fun K hK=>aa ae ?_
 simp only [aj,fl,gp,ai,simprocAttr]
 refine af ?_ (hK _ ?_)<;>clear hK K
 ·first|exact trivial|omega|(simp only [ah] at *; omega)|(simp [ah] at *; omega)|simp_all
 refine qa ?_
 refine ao rfl (fun hC1=>?_) (fun hC1=>?_)
 ·(try simp only [aG] at hC1)
  have hbf:b=false:=by simpa using hC1
  refine qm ?_
  refine ab fun K hK=>aa ae ?_
  simp only [aj,fl,gp,ai,simprocAttr]
  refine an trivial (ak (Be 4 0) rfl rfl rfl (by simp only [au,Nat.reduceLT]) (by repeat (first|exact trivial|constructor)) (aa ae ?_))
  simp only [aj,fl,gp,ai,simprocAttr]
  refine af ?_ (hK _ ?_)<;>clear hK K
  ·first|exact trivial|omega|(simp only [ah] at *; omega)|(simp [ah] at *; omega)|simp_all
  refine qa (qk (qb ?_))
  simp only [Tryd.results70,bG,aj,fl,gp,ai,simprocAttr]
  all_goals (rw [hbf]; exact ⟨rfl,rfl⟩)
 (try simp only [aG] at hC1)
 have hbt:b=true:=by simpa using hC1
 refine qh (qa (qm ?_))
 refine ab fun K hK=>aa ae ?_
 simp only [aj,fl,gp,ai,simprocAttr]
 refine af ?_ (hK _ ?_)<;>clear hK K
 ·first|exact trivial|omega|(simp only [ah] at *; omega)|(simp [ah] at *; omega)|simp_all
 refine qa (qk ?_)
 simp only [Tryd.results70,bG,aj,fl,gp,ai,simprocAttr]
 all_goals (rw [hbt]; exact ⟨rfl,rfl⟩)
def u6 (n:Nat) (r:Nat→Nat→Bool) (i:Nat):Nat:=(mem n (lead r)).getD i 0
def rL (n:Nat) (r:Nat→Nat→Bool) (a:Nat):Nat:=(Fe (bA n r) a).toNat
section
variable {n:Nat} {r:Nat→Nat→Bool}
theorem rF (E:p9 n r) {a:Nat} (ha:a < n):rL n r a < (bA n r).length∧Fe (bA n r) a=(rL n r a:Int)∧((a:Nat):Int)∈(bA n r).getD (rL n r a) []:=by
 obtain ⟨i,i1,i2⟩:=mj E ha
 have h1:=jG E i1 ha i2
 have h2:rL n r a=i:=by unfold rL; rw [h1]; rfl
 rw [h2]
 exact ⟨i1,h1,i2⟩
theorem rp (E:p9 n r) {a b:Nat} (ha:a < n) (hb:b < n):rL n r a=rL n r b↔r a b=true:=by
 obtain ⟨a1,a2,a3⟩:=rF E ha
 obtain ⟨b1,b2,b3⟩:=rF E hb
 obtain ⟨x,x1,x2,x3,x4⟩:=eY a1
 rw [x3,bm ha] at a3
 constructor
 ·intro he
  rw [← he,x3,bm hb] at b3
  exact E.trans a x b ha x1 hb (E.symm x a x1 ha a3) b3
 intro hr
 have:((b:Nat):Int)∈(bA n r).getD (rL n r a) []:=by rw [x3,bm hb]; exact E.trans x a b x1 ha hb a3 hr
 exact jY E a1 b1 hb this b3
theorem sh (E:p9 n r) {i:Nat} (hi:i < (bA n r).length):u6 n r i < n∧rL n r (u6 n r i)=i∧(bA n r).getD i []=aS n (r (u6 n r i))∧lead r (u6 n r i)=true:=by
 obtain ⟨x,x1,x2,x3,x4⟩:=eY hi
 have h1:u6 n r i=x:=x4
 rw [h1]
 have h2:((x:Nat):Int)∈(bA n r).getD i []:=by rw [x3,bm x1]; exact E.refl x x1
 have h3:=jG E hi x1 h2
 exact ⟨x1,by unfold rL; rw [h3]; rfl,x3,x2⟩
theorem Dr (E:p9 n r) {a:Nat} (ha:a < n):(k6 n r).getD a 0=(rL n r a:Int):=by
 unfold k6; rw [iq ha]; exact (rF E ha).2.1
theorem w7 (n:Nat) (r:Nat→Nat→Bool):(k6 n r).length=n:=er _ _
theorem FQ {f:Nat→Nat→Nat} {e:Nat} (G:bB n f e) (E:p9 n r) (hc:∀ a b c d,a < n→b < n→c < n→d < n→r a b=true→r c d=true→r (f a c) (f b d)=true):Qm n f (bA n r).length (rL n r) (u6 n r) where
 lt a ha:=(rF E ha).1
 rlt i hi:=(sh E hi).1
 at_ i hi:=(sh E hi).2.1
 cong a b c d ha hb hc' hd h1 h2:=(rp E (G.cl _ _ ha hc') (G.cl _ _ hb hd)).2 (hc a b c d ha hb hc' hd ((rp E ha hb).1 h1) ((rp E hc' hd).1 h2))
end
def I7 (n:Nat) (f:Nat→Nat→Nat) (r:Nat→Nat→Bool):List Int:=I8 (fun i j=>((GU f (rL n r) (u6 n r) i j:Nat):Int)) (bA n r).length
set_option maxHeartbeats 4000000 in
theorem tW {n e:Nat} {m:List Int} (h:GT n m n e) (p:Nat→Bool) (hs:Sub n (op m n) e p) (hN:vN n (op m n) e p) :
  bR Tryd.prog 37 [gp n m,.list (il (aS n p))] (.tup [gp (bA n (kN n (op m n) p (ko e))).length (I7 n (op m n) (kN n (op m n) p (ko e))),.list (il (k6 n (kN n (op m n) p (ko e)))),fl (0,0)]):=by
 have G:=h.2.2
 have hb:=h.2.1.big
 have E:=G.sA hs G.sk
 have hR:=Ag h p hs
 have Q:=FQ G E fun a b c d ha hb' hc hd h1 h2=>G.A6 hs hN ha hb' hc hd h1 h2
 generalize kN n (op m n) p (ko e)=r at *
 have hcl:(bA n r).length≤n:=fi _ _ _
 have hsq:=kq (show (bA n r).length≤60 by omega)
 have hlen:=xS (fun i j=>((GU (op m n) (rL n r) (u6 n r) i j:Nat):Int)) (bA n r).length
 refine aI ae Tryd.func37 rfl (by kernel_rfl) (by rw [Tryd.ntmps37]; exact Nat.le_add_left 2 _) ?_; rw [Tryd.ntmps37]
 refine qm ?_
 refine ab fun K hK=>aa ae ?_
 simp only [aj,fl,gp,ai,simprocAttr]
 refine af ?_ (hK _ ?_)<;>clear hK K
 ·first|exact trivial|omega|(simp only [ah] at *; omega)|(simp [ah] at *; omega)|simp_all
 refine qa (qm (qm ?_))
 refine ab fun K hK=>aa ae ?_
 simp only [aj,fl,gp,ai,simprocAttr,Fj]
 refine an trivial (ak (Ab h p hs true (by simp [hN])) rfl rfl rfl (by simp only [au,Nat.reduceLT]) (by repeat (first|exact trivial|constructor)) (aa ae ?_))
 simp only [aj,fl,gp,ai,simprocAttr,Fj]
 refine af ?_ (hK _ ?_)<;>clear hK K
 ·first|exact trivial|omega|(simp only [ah] at *; omega)|(simp [ah] at *; omega)|simp_all
 refine qa (qm ?_)
 refine ab fun K hK=>aa ae ?_
 simp only [aj,fl,gp,ai,simprocAttr]
 refine af ?_ (hK _ ?_)<;>clear hK K
 ·first|exact trivial|omega|(simp only [ah] at *; omega)|(simp [ah] at *; omega)|simp_all
 refine qa ?_
 refine ao rfl (fun hC1=>?_) (fun hC1=>?_)
 ·cases hC1
 (try simp only [aG] at hC1)
 refine qh (qa (qm ?_))
 refine ab fun K hK=>aa ae ?_
 simp only [aj,fl,gp,ai,simprocAttr]
 refine an trivial (ak (hR) rfl rfl rfl (by simp only [au,Nat.reduceLT]) (by repeat (first|exact trivial|constructor)) (aa ae ?_))
 simp only [aj,fl,gp,ai,simprocAttr]
 refine af ?_ (hK _ ?_)<;>clear hK K
 ·first|exact trivial|omega|(simp only [ah] at *; omega)|(simp [ah] at *; omega)|simp_all
 refine qa (qm (qm ?_))
 refine ab fun K hK=>aa ae ?_
 simp only [aj,fl,gp,ai,simprocAttr]
 refine af ?_ (hK _ ?_)<;>clear hK K
 ·first|exact trivial|omega|(simp only [ah] at *; omega)|(simp [ah] at *; omega)|simp_all
 refine qa ?_
 refine ao rfl (fun hC2=>?_) (fun hC2=>?_)
 ·cases hC2
 (try simp only [aG] at hC2)
 refine qh (qa (qm ?_))
 refine ab fun K hK=>aa ae ?_
 simp only [aj,fl,gp,ai,simprocAttr,eM.eq_def,xn]
 refine af ?_ (hK _ ?_)<;>clear hK K
 ·omega
 refine qa (qm (qm ?_))
 refine ab fun K hK=>aa ae ?_
 simp only [aj,fl,gp,ai,simprocAttr]
 refine af trivial (hK _ ?_)<;>clear hK K
 refine qa (ql ?_)
 refine aA (ι:=Nat × (Nat→Int)) (fun p=>⟨97,[(2,.ptr 0 0),(4,.ptr 1 0),(6,.ptr 2 0),(8,.p (.list (ll (bA n r)))),(9,.ptr 3 0),(10,.sl 4 0 n),(42,.p (.list (ll (bA n r)))),(43,.p (.int .i64 (bA n r).length)),(44,.p (.int .i64 p.1))],[.own [.p (.int .i64 n),.p (.list (il m))],.own [.p (.int .i64 0),.p .nil],.own [.p (.int .i64 0),.p (.int .i64 0)],.own [.p (.int .i64 0),.p (.int .i64 0)],.own (ol (kp n p.2))]⟩) (fun p=>p.1≤(bA n r).length∧∀ a,a < n→∀ k,k < p.1→((a:Nat):Int)∈(bA n r).getD k []→p.2 a=(k:Int)) (fun p=>(bA n r).length - p.1) (0,fun _=>0) ⟨Nat.zero_le _,fun a _ k hk=>by simp only at hk; omega⟩ [0,1,2,4,5] (by simp only [leq,bf,aj,fl,gp,ai,simprocAttr,aw]<;>first|trivial|(simp; done)) fun p hp=>?_
 obtain ⟨i,g⟩:=p
 obtain ⟨hi1,hi2⟩:=hp
 simp only at hi1 hi2
 refine qm ?_
 refine ab fun K hK=>aa ae ?_
 simp only [aj,fl,gp,ai,simprocAttr]
 refine af trivial (hK _ ?_)<;>clear hK K
 refine qa (qm ?_)
 refine ao rfl (fun hC3=>?_) (fun hC3=>?_)
 ·(try simp only [aG] at hC3)
  have hlt:i < (bA n r).length:=by omega
  obtain ⟨x,x1,x2,x3,x4⟩:=eY hlt
  have l1:=b9 n (r x)
  refine qh (qa (qm (ql (qm ?_))))
  refine ab fun K hK=>aa ae ?_
  simp only [aj,fl,gp,ai,simprocAttr,aw,cQ hlt,x3]
  refine af ?_ (hK _ ?_)<;>clear hK K
  ·first|exact trivial|omega|(simp only [ah] at *; omega)|(simp [ah] at *; omega)|simp_all
  refine qa (qm ?_)
  refine ab fun K hK=>aa ae ?_
  simp only [aj,fl,gp,ai,simprocAttr,aH]
  refine af trivial (hK _ ?_)<;>clear hK K
  refine qa (ql ?_)
  refine aA (ι:=Nat × (Nat→Int)) (fun p=>⟨97,[(2,.ptr 0 0),(4,.ptr 1 0),(6,.ptr 2 0),(8,.p (.list (ll (bA n r)))),(9,.ptr 3 0),(10,.sl 4 0 n),(11,.p (.int .i64 i)),(42,.p (.list (ll (bA n r)))),(43,.p (.int .i64 (bA n r).length)),(44,.p (.int .i64 i)),(49,.p (.list (il (aS n (r x))))),(50,.p (.int .i64 (aS n (r x)).length)),(51,.p (.int .i64 p.1))],[.own [.p (.int .i64 n),.p (.list (il m))],.own [.p (.int .i64 0),.p .nil],.own [.p (.int .i64 0),.p (.int .i64 0)],.own [.p (.int .i64 0),.p (.int .i64 0)],.own (ol (kp n p.2))]⟩) (fun p=>p.1≤(aS n (r x)).length∧(∀ a,a < n→∀ k,k < i→((a:Nat):Int)∈(bA n r).getD k []→p.2 a=(k:Int))∧∀ a,a < n→∀ k,k < p.1→(aS n (r x)).getD k 0=(a:Int)→p.2 a=(i:Int)) (fun p=>(aS n (r x)).length - p.1) (0,g) ⟨Nat.zero_le _,hi2,fun a _ k hk=>by simp only at hk; omega⟩ [0,1,2,3,4] (by simp only [leq,bf,aj,fl,gp,ai,simprocAttr]<;>first|trivial|(simp; done)) fun p hp=>?_
  obtain ⟨j,g'⟩:=p
  obtain ⟨hj1,hj2,hj3⟩:=hp
  simp only at hj1 hj2 hj3
  refine qm ?_
  refine ab fun K hK=>aa ae ?_
  simp only [aj,fl,gp,ai,simprocAttr]
  refine af trivial (hK _ ?_)<;>clear hK K
  refine qa (qm ?_)
  refine ao rfl (fun hC4=>?_) (fun hC4=>?_)
  ·(try simp only [aG] at hC4)
   have hjl:j < (aS n (r x)).length:=by omega
   obtain ⟨c,c1,c2,c3⟩:=eQ hjl
   refine qh (qa (qm (ql (qm ?_))))
   refine ab fun K hK=>aa ae ?_
   simp only [aj,fl,gp,ai,simprocAttr,aL hjl,c3]
   refine af ?_ (hK _ ?_)<;>clear hK K
   ·first|exact trivial|omega|(simp only [ah] at *; omega)|(simp [ah] at *; omega)|simp_all
   refine qa ?_
   refine ab fun K hK=>aa ae ?_
   simp only [aj,fl,gp,ai,simprocAttr]
   refine af ?_ (hK _ ?_)<;>clear hK K
   ·rw [er]; omega
   refine qd (qa ?_)
   rw [eB,r6]
   refine ab fun K hK=>aa ae ?_
   simp only [aj,fl,gp,ai,simprocAttr]
   refine af ?_ (hK _ ?_)<;>clear hK K
   ·first|exact trivial|omega|(simp only [ah] at *; omega)|(simp [ah] at *; omega)|simp_all
   refine qa ?_
   refine ⟨(j + 1,fun a=>if a=c then (i:Int) else g' a),[0,1,2,3,4],⟨by simp only; omega,fun a ha k hk hm=>?_,fun a ha k hk hm=>?_⟩,by simp only; omega,?_⟩
   ·have hne:a ≠ c:=by
     intro he
     subst he
     have h3:((a:Nat):Int)∈(bA n r).getD i []:=by rw [x3,bm ha]; exact c2
     have:=jY E hlt (by omega) ha h3 hm
     omega
    simp only [if_neg hne]
    exact hj2 a ha k hk hm
   ·simp only at hk ⊢
    by_cases hac:a=c
    ·rw [if_pos hac]
    rw [if_neg hac]
    have hkj:k ≠ j:=by intro he; rw [he,c3] at hm; omega
    exact hj3 a ha k (by omega) hm
   simp only [leq,bf,aj,fl,gp,ai,simprocAttr]<;>first|trivial|omega|(simp [kp]; done)
  (try simp only [aG] at hC4)
  have hjn:j=(aS n (r x)).length:=by omega
  refine qj (qc (qc (qf (qd (qa ?_)))))
  refine ab fun K hK=>aa ae ?_
  simp only [aj,fl,gp,ai,simprocAttr]
  refine af ?_ (hK _ ?_)<;>clear hK K
  ·first|exact trivial|omega|(simp only [ah] at *; omega)|(simp [ah] at *; omega)|simp_all
  refine qa ?_
  refine ⟨(i + 1,g'),[0,1,2,3,4],⟨by simp only; omega,fun a ha k hk hm=>?_⟩,by simp only; omega,?_⟩
  ·by_cases hki:k=i
   ·subst hki
    rw [x3] at hm
    obtain ⟨q,q1,q2⟩:=r8 (n:=n) (p:=r x) ha ((bm ha).1 hm)
    exact hj3 a ha q (by omega) q2
   exact hj2 a ha k (by simp only at hk; omega) hm
  simp only [leq,bf,aj,fl,gp,ai,simprocAttr]<;>first|trivial|omega|(simp [kp]; done)
 (try simp only [aG] at hC3)
 have hin:i=(bA n r).length:=by omega
 have hfin:kp n g=k6 n r:=gV fun a ha=>by
  obtain ⟨k,k1,k2⟩:=mj E ha
  rw [hi2 a ha k (by omega) k2,jG E k1 ha k2]
 rw [hfin]
 have hwl:=w7 n r
 refine iA 10 4 (by show AV.sl 4 0 n=AV.sl 4 0 _; rw [hwl]) rfl ?_
 refine qj (qc (qc (qf (qa (qm ?_)))))
 refine ab fun K hK=>aa ae ?_
 simp only [aj,fl,gp,ai,simprocAttr,aw]
 refine af ?_ (hK _ ?_)<;>clear hK K
 ·first|exact trivial|omega|(simp only [ah] at *; omega)|(simp [ah] at *; omega)|simp_all
 refine qa (qm (qm ?_))
 refine u0 5 1 rfl rfl ?_
 simp only [aE,List.cons_append,List.nil_append,List.set,List.length_cons,List.length_nil]
 refine ab fun K hK=>aa ae ?_
 simp only [aj,fl,gp,ai,simprocAttr,aw]
 refine af trivial (hK _ ?_)<;>clear hK K
 refine qa (ql ?_)
 refine aA (ι:=Nat) (fun i=>⟨97,[(2,.ptr 0 0),(4,.ptr 1 0),(6,.ptr 2 0),(8,.p (.list (ll (bA n r)))),(9,.ptr 3 0),(10,.p (.list (il (k6 n r)))),(15,.ptr 4 0),(64,.p (.list (ll (bA n r)))),(65,.p (.int .i64 (bA n r).length)),(66,.p (.int .i64 i))],[.own [.p (.int .i64 n),.p (.list (il m))],.own [.p (.int .i64 0),.p .nil],.own [.p (.int .i64 0),.p (.int .i64 0)],.own [.p (.int .i64 0),.p (.int .i64 0)],.own [.p (.int .i64 (bA n r).length),.sl 5 0 (vE (fun i j=>((GU (op m n) (rL n r) (u6 n r) i j:Nat):Int)) (bA n r).length (i * (bA n r).length)).length],.own (ol (vE (fun i j=>((GU (op m n) (rL n r) (u6 n r) i j:Nat):Int)) (bA n r).length (i * (bA n r).length)))]⟩) (fun i=>i≤(bA n r).length) (fun i=>(bA n r).length - i) 0 (Nat.zero_le _) [0,1,2,3,5,6] (by rw [Nat.zero_mul]; simp only [leq,bf,aj,fl,gp,ai,simprocAttr]<;>first|trivial|simp [vE,rg,iC]) fun i hi=>?_
 refine qm ?_
 refine ab fun K hK=>aa ae ?_
 simp only [aj,fl,gp,ai,simprocAttr]
 refine af trivial (hK _ ?_)<;>clear hK K
 refine qa (qm ?_)
 refine ao rfl (fun hC5=>?_) (fun hC5=>?_)
 ·(try simp only [aG] at hC5)
  have hlt:i < (bA n r).length:=by omega
  obtain ⟨x1,x2,x3,x4⟩:=sh E hlt
  obtain ⟨hd1,hd2⟩:=(fR x1).1 x4
  refine qh (qa (qm (ql (qm ?_))))
  refine ab fun K hK=>aa ae ?_
  simp only [aj,fl,gp,ai,simprocAttr,aw,cQ hlt,x3]
  refine af ?_ (hK _ ?_)<;>clear hK K
  ·first|exact trivial|omega|(simp only [ah] at *; omega)|(simp [ah] at *; omega)|simp_all
  refine qa (qm ?_)
  refine ab fun K hK=>aa ae ?_
  simp only [aj,fl,gp,ai,simprocAttr,aw]
  refine af trivial (hK _ ?_)<;>clear hK K
  refine qa (ql ?_)
  refine aA (ι:=Nat) (fun j=>⟨97,[(2,.ptr 0 0),(4,.ptr 1 0),(6,.ptr 2 0),(8,.p (.list (ll (bA n r)))),(9,.ptr 3 0),(10,.p (.list (il (k6 n r)))),(15,.ptr 4 0),(17,.p (.list (il (aS n (r (u6 n r i)))))),(64,.p (.list (ll (bA n r)))),(65,.p (.int .i64 (bA n r).length)),(66,.p (.int .i64 i)),(70,.p (.list (ll (bA n r)))),(71,.p (.int .i64 (bA n r).length)),(72,.p (.int .i64 j))],[.own [.p (.int .i64 n),.p (.list (il m))],.own [.p (.int .i64 0),.p .nil],.own [.p (.int .i64 0),.p (.int .i64 0)],.own [.p (.int .i64 0),.p (.int .i64 0)],.own [.p (.int .i64 (bA n r).length),.sl 5 0 (vE (fun i j=>((GU (op m n) (rL n r) (u6 n r) i j:Nat):Int)) (bA n r).length (i * (bA n r).length + j)).length],.own (ol (vE (fun i j=>((GU (op m n) (rL n r) (u6 n r) i j:Nat):Int)) (bA n r).length (i * (bA n r).length + j)))]⟩) (fun j=>j≤(bA n r).length) (fun j=>(bA n r).length - j) 0 (Nat.zero_le _) [0,1,2,3,4,5] (by rw [Nat.add_zero]; simp only [leq,bf,aj,fl,gp,ai,simprocAttr]<;>trivial) fun j hj=>?_
  refine qm ?_
  refine ab fun K hK=>aa ae ?_
  simp only [aj,fl,gp,ai,simprocAttr]
  refine af trivial (hK _ ?_)<;>clear hK K
  refine qa (qm ?_)
  refine ao rfl (fun hC6=>?_) (fun hC6=>?_)
  ·(try simp only [aG] at hC6)
   have hjl:j < (bA n r).length:=by omega
   obtain ⟨y1,y2,y3,y4⟩:=sh E hjl
   obtain ⟨he1,he2⟩:=(fR y1).1 y4
   have hxy:=G.cl _ _ x1 y1
   have hat:=tC hlt hjl
   have hl:=hlen (i * (bA n r).length + j)
   have hwl:=w7 n r
   have hwg:=Dr E hxy
   have hwi:op m n (u6 n r i) (u6 n r j) < (k6 n r).length:=by omega
   refine qh (qa (qm (ql (qm ?_))))
   refine ab fun K hK=>aa ae ?_
   simp only [aj,fl,gp,ai,simprocAttr,aw,cQ hjl,y3]
   refine af ?_ (hK _ ?_)<;>clear hK K
   ·first|exact trivial|omega|(simp only [ah] at *; omega)|(simp [ah] at *; omega)|simp_all
   refine qa ?_
   refine oM mixed fun K hK=>eP ae ?_
   simp only [Ho,aj,fl,gp,ai,simprocAttr,aH,aL hd1,hd2,aL he1,he2,aL hwi,hwg]
   refine mA ?_ (kA (jt h.2.1 x1 y1) rfl rfl rfl rfl (by simp only [au,Nat.reduceLT]) (by repeat (first|exact trivial|constructor)) (eP ae ?_))
   ·first|exact trivial|omega|(simp only [ah] at *; omega)|(simp [ah] at *; omega)|simp_all
   simp only [Ho,aj,fl,gp,ai,simprocAttr,aH,aL hd1,hd2,aL he1,he2,aL hwi,hwg]
   refine pW ?_ (hK _ _ (by first|kernel_rfl|rfl) ?_)<;>clear hK K
   ·first|exact trivial|omega|(simp only [ah] at *; omega)|(simp [ah] at *; omega)|simp_all
   refine qd (qa ?_)
   refine ab fun K hK=>aa ae ?_
   simp only [aj,fl,gp,ai,simprocAttr]
   refine af ?_ (hK _ ?_)<;>clear hK K
   ·first|exact trivial|omega|(simp only [ah] at *; omega)|(simp [ah] at *; omega)|simp_all
   refine qa ?_
   refine ⟨j + 1,[0,1,2,3,4,6],by omega,by omega,?_⟩
   rw [oI (fun i j=>((GU (op m n) (rL n r) (u6 n r) i j:Nat):Int)) hjl]
   simp only [leq,bf,aj,fl,gp,ai,simprocAttr]<;>first|trivial|omega
  (try simp only [aG] at hC6)
  have hjn:j=(bA n r).length:=by omega
  refine qj (qc (qc (qf (qd (qa ?_)))))
  refine ab fun K hK=>aa ae ?_
  simp only [aj,fl,gp,ai,simprocAttr]
  refine af ?_ (hK _ ?_)<;>clear hK K
  ·first|exact trivial|omega|(simp only [ah] at *; omega)|(simp [ah] at *; omega)|simp_all
  refine qa ?_
  refine ⟨i + 1,[0,1,2,3,4,5],by omega,by omega,?_⟩
  rw [hjn,show (i + 1) * (bA n r).length=i * (bA n r).length + (bA n r).length by rw [Nat.add_mul,Nat.one_mul]]
  simp only [leq,bf,aj,fl,gp,ai,simprocAttr]<;>first|trivial|omega
 (try simp only [aG] at hC5)
 have hin:i=(bA n r).length:=by omega
 refine qj (qc (qc (qf (qa (qm ?_)))))
 refine oM mixed fun K hK=>eP ae ?_
 simp only [Ho,aj,fl,gp,ai,simprocAttr]
 refine pW ?_ (hK _ _ (by first|kernel_rfl|rfl) ?_)<;>clear hK K
 ·first|exact trivial|omega|(simp only [ah] at *; omega)|(simp [ah] at *; omega)|simp_all
 refine qa (qk ?_)
 simp only [Tryd.results37,bG,aj,fl,gp,ai,simprocAttr]
 all_goals (simp [hin,I8,I7])
open Go.Pv
theorem Dh {n e:Nat} {f:Nat→Nat→Nat} (p q:Nat→Bool):EP (wO n f e (aS n p) (aS n q))=Cs n f e p q:=by
 funext x
 rw [Bool.eq_iff_iff,lO]
 unfold EP
 rw [decide_eq_true_eq,wM]
 constructor
 ·rintro ⟨a,b,a1,b1,a2,b2,h⟩
  exact ⟨a,b,a1,b1,a2,b2,by omega⟩
 rintro ⟨a,b,a1,b1,a2,b2,h⟩
 exact ⟨a,b,a1,b1,a2,b2,by omega⟩
theorem I5.at {n:Nat} {T:Nat→Nat→Bool} {K k:Nat} (h:I5 n T K) (hk:k≤K):bo n (T (k + 1))=bo n (T k)↔k=K:=by
 constructor
 ·intro he
  rcases Nat.lt_or_eq_of_le hk with h1 | h1
  ·exact absurd (fun a ha=>sd he ha) (h.ne k h1)
  exact h1
 rintro rfl
 exact dh h.eq
theorem I5.at' {n:Nat} {T:Nat→Nat→Bool} {K k:Nat} (h:I5 n T K) (hk:k≤K):aS n (T k)=aS n (T (k + 1))↔k=K:=by
 rw [← h.at hk]
 exact ⟨fun he=>dh fun a ha=>(Eg he ha).symm,fun he=>mG fun a ha=>(sd he ha).symm⟩
section
variable {n e:Nat} {m:List Int}
end
open Go.Pv
theorem Er {n e:Nat} {m:List Int} (h:GT n m n e) (d:Nat→Bool) (hd:∀ a,a < n→(d a=true↔eh n (op m n) e (Cs n (op m n) e (fun _=>true) fun _=>true) a)) (hs:Sub n (op m n) e d) (hN:vN n (op m n) e d) :
  bR Tryd.prog 27 [gp n m] (.tup [gp (bA n (kN n (op m n) d (ko e))).length (I7 n (op m n) (kN n (op m n) d (ko e))),.list (il (k6 n (kN n (op m n) d (ko e)))),fl (0,0)]):=by
 have hb:=h.2.1.big
 have hml:=h.2.1.len
 have hsq:=kq hb
 refine aI ae Tryd.func27 rfl (by kernel_rfl) (by rw [Tryd.ntmps27]; exact Nat.le_add_left 1 _) ?_; rw [Tryd.ntmps27]
 refine qm ?_
 refine ab fun K hK=>aa ae ?_
 simp only [aj,fl,gp,ai,simprocAttr]
 refine af ?_ (hK _ ?_)<;>clear hK K
 ·first|exact trivial|omega|(simp only [ah] at *; omega)|(simp [ah] at *; omega)|simp_all
 refine qa (qm ?_)
 refine ab fun K hK=>aa ae ?_
 simp only [aj,fl,gp,ai,simprocAttr]
 refine af trivial (hK _ ?_)<;>clear hK K
 refine qa (qm (qm ?_))
 refine bN 5 rfl ?_
 refine ab fun K hK=>aa ae ?_
 simp only [aj,fl,gp,ai,simprocAttr]
 refine an trivial (ak (jX n m (by omega)) rfl rfl rfl (by simp only [au,Nat.reduceLT]) (by repeat (first|exact trivial|constructor)) (aa ae ?_))
 simp only [aj,fl,gp,ai,simprocAttr,qX h]
 refine af ?_ (hK _ ?_)<;>clear hK K
 ·first|exact trivial|omega|(simp only [ah] at *; omega)|(simp [ah] at *; omega)|simp_all
 refine qa (qm ?_)
 refine ab fun K hK=>aa ae ?_
 simp only [aj,fl,gp,ai,simprocAttr]
 refine af ?_ (hK _ ?_)<;>clear hK K
 ·first|exact trivial|omega|(simp only [ah] at *; omega)|(simp [ah] at *; omega)|simp_all
 refine qa ?_
 refine ao rfl (fun hC1=>?_) (fun hC1=>?_)
 ·cases hC1
 (try simp only [aG] at hC1)
 refine qh (qa (qm (qm ?_)))
 refine ab fun K hK=>aa ae ?_
 simp only [aj,fl,gp,ai,simprocAttr]
 refine af ?_ (hK _ ?_)<;>clear hK K
 ·first|exact trivial|omega|(simp only [ah] at *; omega)|(simp [ah] at *; omega)|simp_all
 refine qa (ql ?_)
 refine aA (ι:=Nat) (fun a=>⟨45,[(1,.ptr 0 0),(2,.ptr 1 0),(4,.ptr 2 0),(5,.sl 3 0 (aS a fun _=>true).length),(18,.p (.int .i64 n)),(19,.p (.int .i64 a))],[.own [.p (.int .i64 n),.p (.list (il m))],.own [.p (.int .i64 0),.p .nil],.own [.p (.int .i64 0),.p (.int .i64 0)],.own (ol (aS a fun _=>true))]⟩) (fun a=>a≤n) (fun a=>n - a) 0 (Nat.zero_le _) [0,1,2,3] (by simp only [leq,bf,aj,fl,gp,ai,simprocAttr]<;>first|trivial|simp [aS,gC,iC]) fun a ha=>?_
 have hl:=b9 a fun _=>true
 refine qm ?_
 refine ab fun K hK=>aa ae ?_
 simp only [aj,fl,gp,ai,simprocAttr]
 refine af trivial (hK _ ?_)<;>clear hK K
 refine qa (qm ?_)
 refine ao rfl (fun hC2=>?_) (fun hC2=>?_)
 ·(try simp only [aG] at hC2)
  have hlt:a < n:=by omega
  have hs':=ma a fun _=>true
  rw [if_pos rfl] at hs'
  refine qh (qa (qm (ql (qm ?_))))
  refine ab fun K hK=>aa ae ?_
  simp only [aj,fl,gp,ai,simprocAttr]
  refine af trivial (hK _ ?_)<;>clear hK K
  refine qa ?_
  refine ab fun K hK=>aa ae ?_
  simp only [aj,fl,gp,ai,simprocAttr]
  refine af ?_ (hK _ ?_)<;>clear hK K
  ·first|exact trivial|omega|(simp only [ah] at *; omega)|(simp [ah] at *; omega)|simp_all
  refine qd (qa ?_)
  refine ab fun K hK=>aa ae ?_
  simp only [aj,fl,gp,ai,simprocAttr]
  refine af ?_ (hK _ ?_)<;>clear hK K
  ·first|exact trivial|omega|(simp only [ah] at *; omega)|(simp [ah] at *; omega)|simp_all
  refine qa ?_
  refine ⟨a + 1,[0,1,2,4],by omega,by omega,?_⟩
  rw [hs']
  simp only [leq,bf,aj,fl,gp,ai,simprocAttr]<;>first|trivial|omega
 (try simp only [aG] at hC2)
 have han:a=n:=by omega
 subst han
 refine iA 5 3 rfl rfl ?_
 refine qj (qc (qc (qf (qa (qm ?_)))))
 refine ab fun K hK=>aa ae ?_
 simp only [aj,fl,gp,ai,simprocAttr]
 refine an trivial (ak (Di h (fun _=>true) (fun _=>true) d (fun a ha=>by rw [Dh]; exact hd a ha)) rfl rfl rfl (by simp only [au,Nat.reduceLT]) (by repeat (first|exact trivial|constructor)) (aa ae ?_))
 simp only [aj,fl,gp,ai,simprocAttr]
 refine af ?_ (hK _ ?_)<;>clear hK K
 ·first|exact trivial|omega|(simp only [ah] at *; omega)|(simp [ah] at *; omega)|simp_all
 refine qa (qm (qm ?_))
 refine ab fun K hK=>aa ae ?_
 simp only [aj,fl,gp,ai,simprocAttr]
 refine af ?_ (hK _ ?_)<;>clear hK K
 ·first|exact trivial|omega|(simp only [ah] at *; omega)|(simp [ah] at *; omega)|simp_all
 refine qa ?_
 refine ao rfl (fun hC3=>?_) (fun hC3=>?_)
 ·cases hC3
 (try simp only [aG] at hC3)
 refine qh (qa (qm ?_))
 refine ab fun K hK=>aa ae ?_
 simp only [aj,fl,gp,ai,simprocAttr]
 refine an trivial (ak (tW h d hs hN) rfl rfl rfl (by simp only [au,Nat.reduceLT]) (by repeat (first|exact trivial|constructor)) (aa ae ?_))
 simp only [aj,fl,gp,ai,simprocAttr]
 refine af ?_ (hK _ ?_)<;>clear hK K
 ·first|exact trivial|omega|(simp only [ah] at *; omega)|(simp [ah] at *; omega)|simp_all
 refine qa (qk ?_)
 simp only [Tryd.results27,bG,aj,fl,gp,ai,simprocAttr]
 all_goals ((first|exact rfl|exact ⟨rfl,rfl⟩|exact ⟨rfl,rfl,rfl⟩|exact ⟨trivial,rfl⟩|exact ⟨Nat.le_refl _,rfl⟩|trivial|(simp; done)))
theorem oZ (N:Int) (m:List Int) (hm:m.length≤1000000000000000) (hf:¬ (gf N m).1=0):bR Tryd.prog 7 [gp N m] (.bool true):=by
 refine aI ae Tryd.func7 rfl (by kernel_rfl) (by rw [Tryd.ntmps7]; exact Nat.le_add_left 1 _) ?_; rw [Tryd.ntmps7]
 refine qm ?_
 refine ab fun K hK=>aa ae ?_
 simp only [aj,fl,gp,ai,simprocAttr]
 refine af ?_ (hK _ ?_)<;>clear hK K
 ·first|exact trivial|omega|(simp only [ah] at *; omega)|(simp [ah] at *; omega)|simp_all
 refine qa (qm (qm ?_))
 refine ab fun K hK=>aa ae ?_
 simp only [aj,fl,gp,ai,simprocAttr]
 refine an trivial (ak (jF) rfl rfl rfl (by simp only [au,Nat.reduceLT]) (by repeat (first|exact trivial|constructor)) (aa ae ?_))
 simp only [aj,fl,gp,ai,simprocAttr]
 refine af trivial (hK _ ?_)<;>clear hK K
 refine qa ?_
 refine ao rfl (fun hC1=>?_) (fun hC1=>?_)
 ·(try simp only [aG] at hC1)
  first|exact absurd rfl hC1|exact hC1.elim|cases hC1|(simp at hC1; done)
 (try simp only [aG] at hC1)
 refine qh (qa (qm ?_))
 refine ab fun K hK=>aa ae ?_
 simp only [aj,fl,gp,ai,simprocAttr]
 refine an trivial (ak (wi N m hm hf) rfl rfl rfl (by simp only [au,Nat.reduceLT]) (by repeat (first|exact trivial|constructor)) (aa ae ?_))
 simp only [aj,fl,gp,ai,simprocAttr]
 refine af ?_ (hK _ ?_)<;>clear hK K
 ·first|exact trivial|omega|(simp only [ah] at *; omega)|(simp [ah] at *; omega)|simp_all
 refine qa (qm (qm ?_))
 refine ab fun K hK=>aa ae ?_
 simp only [aj,fl,gp,ai,simprocAttr]
 refine af ?_ (hK _ ?_)<;>clear hK K
 ·first|exact trivial|omega|(simp only [ah] at *; omega)|(simp [ah] at *; omega)|simp_all
 refine qa ?_
 refine ao rfl (fun hC2=>?_) (fun hC2=>?_)
 ·(try simp only [aG] at hC2)
  refine qm ?_
  refine ab fun K hK=>aa ae ?_
  simp only [aj,fl,gp,ai,simprocAttr]
  refine an trivial (ak (Iz N m hm hf) rfl rfl rfl (by simp only [au,Nat.reduceLT]) (by repeat (first|exact trivial|constructor)) (aa ae ?_))
  simp only [aj,fl,gp,ai,simprocAttr]
  refine af ?_ (hK _ ?_)<;>clear hK K
  ·first|exact trivial|omega|(simp only [ah] at *; omega)|(simp [ah] at *; omega)|simp_all
  refine qa (qk (qb ?_))
  simp only [Tryd.results7,bG,aj,fl,gp,ai,simprocAttr]
  all_goals (simp [hf])
 (try simp only [aG] at hC2)
 exact absurd hC2 hf
theorem mC {n e:Nat} {m:List Int} (h:GT n m n e) (hc:24 < aZ m n e):bR Tryd.prog 7 [gp n m] (.bool true):=by
 refine aI ae Tryd.func7 rfl (by kernel_rfl) (by rw [Tryd.ntmps7]; exact Nat.le_add_left 1 _) ?_; rw [Tryd.ntmps7]
 refine qm ?_
 refine ab fun K hK=>aa ae ?_
 simp only [aj,fl,gp,ai,simprocAttr]
 refine af ?_ (hK _ ?_)<;>clear hK K
 ·first|exact trivial|omega|(simp only [ah] at *; omega)|(simp [ah] at *; omega)|simp_all
 refine qa (qm (qm ?_))
 refine ab fun K hK=>aa ae ?_
 simp only [aj,fl,gp,ai,simprocAttr]
 refine an trivial (ak (jF) rfl rfl rfl (by simp only [au,Nat.reduceLT]) (by repeat (first|exact trivial|constructor)) (aa ae ?_))
 simp only [aj,fl,gp,ai,simprocAttr]
 refine af trivial (hK _ ?_)<;>clear hK K
 refine qa ?_
 refine ao rfl (fun hC1=>?_) (fun hC1=>?_)
 ·(try simp only [aG] at hC1)
  first|exact absurd rfl hC1|exact hC1.elim|cases hC1|(simp at hC1; done)
 (try simp only [aG] at hC1)
 refine qh (qa (qm ?_))
 refine ab fun K hK=>aa ae ?_
 simp only [aj,fl,gp,ai,simprocAttr]
 refine an trivial (ak (rj h hc) rfl rfl rfl (by simp only [au,Nat.reduceLT]) (by repeat (first|exact trivial|constructor)) (aa ae ?_))
 simp only [aj,fl,gp,ai,simprocAttr]
 refine af ?_ (hK _ ?_)<;>clear hK K
 ·first|exact trivial|omega|(simp only [ah] at *; omega)|(simp [ah] at *; omega)|simp_all
 refine qa (qm (qm ?_))
 refine ab fun K hK=>aa ae ?_
 simp only [aj,fl,gp,ai,simprocAttr]
 refine af ?_ (hK _ ?_)<;>clear hK K
 ·first|exact trivial|omega|(simp only [ah] at *; omega)|(simp [ah] at *; omega)|simp_all
 refine qa ?_
 refine ao rfl (fun hC2=>?_) (fun hC2=>?_)
 ·(try simp only [aG] at hC2)
  refine qm ?_
  refine ab fun K hK=>aa ae ?_
  simp only [aj,fl,gp,ai,simprocAttr]
  refine an trivial (ak (Eb h hc) rfl rfl rfl (by simp only [au,Nat.reduceLT]) (by repeat (first|exact trivial|constructor)) (aa ae ?_))
  simp only [aj,fl,gp,ai,simprocAttr]
  refine af ?_ (hK _ ?_)<;>clear hK K
  ·first|exact trivial|omega|(simp only [ah] at *; omega)|(simp [ah] at *; omega)|simp_all
  refine qa (qk (qb ?_))
  simp only [Tryd.results7,bG,aj,fl,gp,ai,simprocAttr]
  all_goals (simp)
 cases hC2
set_option maxHeartbeats 4000000 in
set_option maxRecDepth 20000 in
theorem pG {n e:Nat} {m:List Int} (h:GT n m n e) (hc24:aZ m n e≤24):bR Tryd.prog 7 [gp n m] (.bool true):=by
 obtain ⟨P,p1,p2⟩:=ub h
 have hp3:=P.three
 have hb:=h.2.1.big
 have G:=h.2.2
 have hcn:=(vJ h).2
 have hrow:(nX m n e).length=aZ m n e:=by
  haveI:NeZero (aK m n e):=⟨by omega⟩
  exact (lh h).2.2.1
 have hdgc:=qV h hc24
 have hdl:(qg m n e).length=aZ m n e:=by unfold qg; rw [List.length_map]; exact hrow
 obtain ⟨d,hd⟩:=Ce n (op m n) e (Cs n (op m n) e (fun _=>true) fun _=>true)
 have hds:=xa G hd
 have hdn:=G.DI (G.F9 (fun _=>true) fun _ _ _ _ _=>rfl) hd
 have hab:=Er h d hd hds hdn
 obtain ⟨vv,v1,v2,v3,_⟩:=yB h
 have v3:=v3 d hd hds hdn
 have hdg:∀ i,i < aZ m n e→(qg m n e).getD i 0=(vv i:Nat):=fun i hi=>by
  rw [← (v1 i hi).1]
  unfold qg
  have hi2:i < (nX m n e).length:=by rw [hrow]; exact hi
  simp [List.getD,List.getElem?_map,List.getElem?_eq_getElem hi2]
 have hsn:∀ i,i≤aZ m n e→sn (fun i=>vv i * vv i) i≤60 * 3600:=fun i hi=>by
  refine Nat.le_trans (wV (B:=3600) fun j hj=>Nat.le_trans (Nat.mul_le_mul (v1 j (by omega)).2.2.1 (v1 j (by omega)).2.2.1) (Nat.mul_le_mul hb hb)) (Nat.mul_le_mul_right _ (by omega))
 generalize qg m n e=D at *
 generalize aZ m n e=k at *
 generalize (bA n (kN n (op m n) d (ko e))).length=qn at *
 generalize I7 n (op m n) (kN n (op m n) d (ko e))=qt at *
 generalize k6 n (kN n (op m n) d (ko e))=qw at *
 refine aI ae Tryd.func7 rfl (by kernel_rfl) (by rw [Tryd.ntmps7]; exact Nat.le_add_left 1 _) ?_; rw [Tryd.ntmps7]
 refine qm ?_
 refine ab fun K hK=>aa ae ?_
 simp only [aj,fl,gp,ai,simprocAttr]
 refine af ?_ (hK _ ?_)<;>clear hK K
 ·first|exact trivial|omega|(simp only [ah] at *; omega)|(simp [ah] at *; omega)|simp_all
 refine qa (qm (qm ?_))
 refine ab fun K hK=>aa ae ?_
 simp only [aj,fl,gp,ai,simprocAttr]
 refine an trivial (ak (jF) rfl rfl rfl (by simp only [au,Nat.reduceLT]) (by repeat (first|exact trivial|constructor)) (aa ae ?_))
 simp only [aj,fl,gp,ai,simprocAttr]
 refine af trivial (hK _ ?_)<;>clear hK K
 refine qa ?_
 refine ao rfl (fun hC1=>?_) (fun hC1=>?_)
 ·(try simp only [aG] at hC1)
  first|exact absurd rfl hC1|exact hC1.elim|cases hC1|(simp at hC1; done)
 (try simp only [aG] at hC1)
 refine qh (qa (qm ?_))
 refine ab fun K hK=>aa ae ?_
 simp only [aj,fl,gp,ai,simprocAttr]
 refine an trivial (ak (hdgc) rfl rfl rfl (by simp only [au,Nat.reduceLT]) (by repeat (first|exact trivial|constructor)) (aa ae ?_))
 simp only [aj,fl,gp,ai,simprocAttr]
 refine af ?_ (hK _ ?_)<;>clear hK K
 ·first|exact trivial|omega|(simp only [ah] at *; omega)|(simp [ah] at *; omega)|simp_all
 refine qa (qm (qm ?_))
 refine ab fun K hK=>aa ae ?_
 simp only [aj,fl,gp,ai,simprocAttr]
 refine af ?_ (hK _ ?_)<;>clear hK K
 ·first|exact trivial|omega|(simp only [ah] at *; omega)|(simp [ah] at *; omega)|simp_all
 refine qa ?_
 refine ao rfl (fun hC2=>?_) (fun hC2=>?_)
 ·cases hC2
 (try simp only [aG] at hC2)
 refine qh (qa (qm ?_))
 refine ab fun K hK=>aa ae ?_
 simp only [aj,fl,gp,ai,simprocAttr]
 refine an trivial (ak (hab) rfl rfl rfl (by simp only [au,Nat.reduceLT]) (by repeat (first|exact trivial|constructor)) (aa ae ?_))
 simp only [aj,fl,gp,ai,simprocAttr]
 refine af ?_ (hK _ ?_)<;>clear hK K
 ·first|exact trivial|omega|(simp only [ah] at *; omega)|(simp [ah] at *; omega)|simp_all
 refine qa (qm (qm ?_))
 refine ab fun K hK=>aa ae ?_
 simp only [aj,fl,gp,ai,simprocAttr]
 refine af ?_ (hK _ ?_)<;>clear hK K
 ·first|exact trivial|omega|(simp only [ah] at *; omega)|(simp [ah] at *; omega)|simp_all
 refine qa ?_
 refine ao rfl (fun hC3=>?_) (fun hC3=>?_)
 ·cases hC3
 (try simp only [aG] at hC3)
 refine qh (qa (qm ?_))
 refine ab fun K hK=>aa ae ?_
 simp only [aj,fl,gp,ai,simprocAttr]
 refine af trivial (hK _ ?_)<;>clear hK K
 refine qa (qm ?_)
 refine ab fun K hK=>aa ae ?_
 simp only [aj,fl,gp,ai,simprocAttr]
 refine af trivial (hK _ ?_)<;>clear hK K
 refine qa (qm (qm ?_))
 refine ab fun K hK=>aa ae ?_
 simp only [aj,fl,gp,ai,simprocAttr]
 refine af trivial (hK _ ?_)<;>clear hK K
 refine qa (ql ?_)
 refine aA (ι:=Nat) (fun i=>⟨91,[(1,.ptr 0 0),(3,.p (.list (il D))),(5,.ptr 1 0),(7,.p (.int .i64 (sn (fun i=>vv i * vv i) i:Nat))),(8,.p (.int .i64 (cn vv i 1:Nat))),(9,.p (.int .i64 i))],[.own [.p (.int .i64 n),.p (.list (il m))],.own [.p (.int .i64 qn),.p (.list (il qt))]]⟩) (fun i=>i≤k) (fun i=>k - i) 0 (Nat.zero_le _) [0,2] (by simp only [leq,bf,aj,fl,gp,ai,simprocAttr]<;>first|trivial|rfl|skip) fun i hi=>?_
 refine qm (qm ?_)
 refine ab fun K hK=>aa ae ?_
 simp only [aj,fl,gp,ai,simprocAttr,aH,hdl]
 refine af trivial (hK _ ?_)<;>clear hK K
 refine qa ?_
 refine ao rfl (fun hC4=>?_) (fun hC4=>?_)
 ·(try simp only [aG] at hC4)
  have hik:i < k:=by omega
  obtain ⟨w1,w2,w3,w4⟩:=v1 i hik
  have hdi:=hdg i hik
  have hsi:=hsn i (by omega)
  have hci:=uk vv 1 i
  have hmod:Int.tmod (n:Int) (vv i:Nat)=0:=by
   obtain ⟨q,hq⟩:=w4
   rw [hq]
   exact Int.tmod_eq_zero_of_dvd ⟨(q:Int),by simp⟩
  have hvv:((vv i:Nat):Int) * ((vv i:Nat):Int)=((vv i * vv i:Nat):Int):=by simp
  have hv60:vv i * vv i≤60 * 60:=Nat.mul_le_mul (by omega) (by omega)
  have hs1:sn (fun i=>vv i * vv i) (i + 1)=sn (fun i=>vv i * vv i) i + vv i * vv i:=rfl
  have hc1:cn vv (i + 1) 1=cn vv i 1 + if vv i=1 then 1 else 0:=rfl
  refine qh (qa (qm (ql (qm (qm ?_)))))
  refine aT mixed (by kernel_rfl) fun K hK=>aa ae ?_
  simp only [aj,fl,gp,ai,simprocAttr,aH,aL (show i < D.length by omega),hdi,decide_eq_false (show ¬ ((vv i:Nat):Int) < 1 by omega),decide_eq_false (show ¬ (n:Int) < (vv i:Nat) by omega),hmod,oS,Bi]
  refine af ?_ (hK _ ?_)<;>clear hK K
  ·omega
  refine qa ?_
  refine ao rfl (fun hC5=>?_) (fun hC5=>?_)
  ·(try simp only [aG] at hC5)
   first|exact absurd rfl hC5|exact hC5.elim|cases hC5|(simp at hC5; done)
  (try simp only [aG] at hC5)
  refine qh (qa (qm ?_))
  refine aT mixed (by kernel_rfl) fun K hK=>aa ae ?_
  simp only [aj,fl,gp,ai,simprocAttr,aH,aL (show i < D.length by omega),hdi,hvv]
  refine af ?_ (hK _ ?_)<;>clear hK K
  ·simp only [ah]; omega
  refine qa (qm ?_)
  refine ab fun K hK=>aa ae ?_
  simp only [aj,fl,gp,ai,simprocAttr,aH,aL (show i < D.length by omega),hdi]
  refine af ?_ (hK _ ?_)<;>clear hK K
  ·omega
  refine qa ?_
  refine ao rfl (fun hC6=>?_) (fun hC6=>?_)
  ·(try simp only [aG] at hC6)
   rw [if_pos (by omega)] at hc1
   refine ab fun K hK=>aa ae ?_
   simp only [aj,fl,gp,ai,simprocAttr]
   refine af ?_ (hK _ ?_)<;>clear hK K
   ·first|exact trivial|omega|(simp only [ah] at *; omega)|(simp [ah] at *; omega)|simp_all
   refine qd (qa ?_)
   refine ab fun K hK=>aa ae ?_
   simp only [aj,fl,gp,ai,simprocAttr]
   refine af ?_ (hK _ ?_)<;>clear hK K
   ·first|exact trivial|omega|(simp only [ah] at *; omega)|(simp [ah] at *; omega)|simp_all
   refine qa ?_
   refine ⟨i + 1,[0,1],by omega,by omega,?_⟩
   rw [hs1,hc1]
   simp only [leq,bf,aj,fl,gp,ai,simprocAttr]<;>first|trivial|omega|skip
  (try simp only [aG] at hC6)
  rw [if_neg (by omega)] at hc1
  refine qh (qd (qa ?_))
  refine ab fun K hK=>aa ae ?_
  simp only [aj,fl,gp,ai,simprocAttr]
  refine af ?_ (hK _ ?_)<;>clear hK K
  ·first|exact trivial|omega|(simp only [ah] at *; omega)|(simp [ah] at *; omega)|simp_all
  refine qa ?_
  refine ⟨i + 1,[0,1],by omega,by omega,?_⟩
  rw [hs1,hc1]
  simp only [leq,bf,aj,fl,gp,ai,simprocAttr]<;>first|trivial|omega|skip
 (try simp only [aG] at hC4)
 have hik:i=k:=by omega
 rw [hik,v2,v3]
 refine qj (qc (qc (qf (qa (qm ?_)))))
 refine ab fun K hK=>aa ae ?_
 simp only [aj,fl,gp,ai,simprocAttr,oS]
 refine af ?_ (hK _ ?_)<;>clear hK K
 ·first|exact trivial|omega|(simp only [ah] at *; omega)|(simp [ah] at *; omega)|simp_all
 refine qa (qk ?_)
 simp only [Tryd.results7,bG,aj,fl,gp,ai,simprocAttr]
 all_goals (simp)
theorem qA (N:Int) (m:List Int) (hm:m.length≤1000000000000000):bR Tryd.prog 7 [gp N m] (.bool true):=by
 by_cases hf:(gf N m).1=0
 ·obtain ⟨n,e,h,_⟩:=Fo hf
  obtain rfl:N=(n:Int):=h.1
  by_cases hc:aZ m n e≤24
  ·exact pG h hc
  exact mC h (by omega)
 exact oZ N m hm hf
open Go.Pv Go.ChangeShapes Go.WideShapes Go.ChangeAt Go.WideElems Go.RowKit
theorem own:ownKnob Tryd.prog.godebug=none:=by kernel_rfl
theorem laidOut:laidOutB Tryd.prog=true:=by kernel_rfl
theorem gG:Tryd.prog.globalNamed "math/bits.deBruijn64tab" = some 0:=by kernel_rfl
theorem tG:(Tryd.prog.globals[0]?).map (·.type)=some 113:=by kernel_rfl
theorem cG:Tryd.prog.cellsOf 5=1:=by kernel_rfl
theorem Cc (os:Os) (args:Array Value):laidMetH Tryd.prog [("math/bits.deBruijn64tab",Rows.laid_math_bits_deBruijn64tab)] ((World.doorLaid Tryd.prog 4000 os).forCall (fun _ _=>0) ⟨#[],args,[]⟩).memory:=
 laidMetH_of_parts3 (fuel:=8) (laidMet_of_run' 8 (by kernel_rfl) (by kernel_rfl)) (by kernel_rfl) (by kernel_rfl)
def HF:DataW Unit→PV
 | .lit (.int k n)=>.int k n
 | _=>.nil
def datum:List (DataW Unit)→List PV:=List.map HF
theorem vG:(match (Rows.laid_math_bits_deBruijn64tab:DataW Unit) with | .agg l=>datum l | _=>[])=iZ:=rfl
theorem CU {W:World} (h:laidMetH Tryd.prog [("math/bits.deBruijn64tab",Rows.laid_math_bits_deBruijn64tab)] W):px (fun b=>b < W.heap.size) W:=by
 refine ⟨fun b h=>h,fun g l hg=>?_⟩
 have hg2:g=0∧l=iZ:=by
  unfold gv at hg
  by_cases e:g=0
  ·subst e; exact ⟨rfl,(Option.some.inj hg).symm⟩
  have:(g == 0)=false:=by simpa using e
  rw [this] at hg; simp at hg
 obtain ⟨rfl,rfl⟩:=hg2
 rw [MakeChecks.laidMetH_plain _ _ _ (by kernel_rfl)] at h
 obtain ⟨ps,⟨g0,t0,cs0,f0,p0,q0,hg0,ht0,hv0,hd0,_,_⟩,_,_⟩:=h
 obtain rfl:=Option.some.inj (gG.symm.trans hg0)
 obtain rfl:=Option.some.inj (tG.symm.trans ht0)
 obtain ⟨xs,m1,rfl,hx1,hlen,hn3,hel⟩:=DataW.trod_array Tryd.underlying113 hd0
 have hd1:Rows.laid_math_bits_deBruijn64tab=DataW.agg (xs.map (·.1)):=congrArg Prod.fst hx1
 have hgl:iZ=datum (xs.map (·.1)):=by
  rw [← vG,hd1]
 have key:∀ c (h:c < iZ.length),W.cell? ⟨0,0 + c,none⟩=some ((cs0[c]?).getD undef)∧Reads (fun b=>b < W.heap.size) W iZ[c] ((cs0[c]?).getD undef):=by
  intro c hc
  have hc2:c < 64:=Nat.lt_of_lt_of_le hc (by decide)
  have hcx:c < xs.length:=by omega
  have h1:=hel c hc2
  rw [List.getElem?_eq_getElem hcx] at h1
  obtain ⟨k,e1,e2,_⟩:=DataW.trod_int Tryd.underlying5 h1
  rw [cG] at e1
  have e3:cs0.toList[c]? = some (.int .u8 k):=by
   have:=congrArg (fun l=>l[0]?) e1
   simpa [List.getElem?_take,List.getElem?_drop] using this
  have e4:cs0[c]? = some (.int .u8 k):=by simpa using e3
  have e5:iZ[c] = .int .u8 k:=by
   have:iZ[c]? = (datum (xs.map (·.1)))[c]?:=by rw [hgl]
   rw [List.getElem?_eq_getElem hc] at this
   simp only [datum,List.getElem?_map,List.getElem?_eq_getElem hcx,Option.map_some,Option.some.injEq] at this
   exact this.trans (by rw [e2]; rfl)
  refine ⟨?_,?_⟩
  ·rw [e4,Nat.zero_add,World.var?_cell gG hv0 c,e4]; rfl
  rw [e4]
  exact e5 ▸ (Reads.int .u8 k)
 refine .ptr _ _ _ (fun c=>(cs0[c]?).getD undef) ?_ (fun c hc=>(key c hc).1) fun c hc=>(key c hc).2
 have:=(key 0 (by decide)).1
 unfold World.cell? at this
 rcases Nat.lt_or_ge 0 W.heap.size with h | h
 ·exact h
 exfalso
 rw [Array.getElem?_eq_none h] at this
 simp at this
end Go.Proofs.YtjlmpmidchddjaaDoor
