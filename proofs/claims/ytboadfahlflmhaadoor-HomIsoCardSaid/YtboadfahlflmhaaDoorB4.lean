/-
  Texts of this proof, one behind the other: what each says stands at its head. Conditions: none.
-/
import Derived.Test.YtboadfahlflmhaaDoorB3
import Derived.Test.YtboadfahlflmhaaDoorB2
import Derived.Maps.RangeRun
import Derived.RangeFuncRecord
import Derived.RangeFuncLeaves

/-
  Plain law, SYLOW'S THEOREMS: subgroups of a power of a prime of things. Conditions: none.
-/
set_option linter.all false
namespace Go.Proofs.YtboadfahlflmhaaDoor
open Go.Pv

section
variable {n:Nat} {f:Nat→Nat→Nat} {e:Nat} {p q s:Nat→Bool} {P:Nat}

theorem isPr.pow_div (hP:isPr P):∀ {k d:Nat},d ∣ P ^ k→∃ i,i≤k∧d=P ^ i
 | 0,d,h=>⟨0,Nat.le_refl _,by simpa using h⟩
 | k + 1,d,h=>by
  rcases dvd_ppow hP.1 (fun d hd=>hP.div hd) h with h | h
  ·exact ⟨k + 1,Nat.le_refl _,h⟩
  ·obtain ⟨i,hi,h⟩:=hP.pow_div h
   exact ⟨i,by omega,h⟩
theorem isPr.pos (hP:isPr P) (k:Nat):0 < P ^ k:=Nat.pow_pos (by have:=hP.1; omega)
theorem isPr.le_of_dvd (hP:isPr P) {i j:Nat} (h:P ^ i ∣ P ^ j):i≤j:=by
 have h1:=Nat.le_of_dvd (hP.pos j) h
 exact (Nat.pow_le_pow_iff_right hP.1).1 h1
theorem isPr.mul (hP:isPr P) {a b:Nat} (h:P ∣ a * b):P ∣ a∨P ∣ b:=by
 by_cases ha:P ∣ a
 ·exact .inl ha
 ·exact .inr (Nat.Coprime.dvd_of_dvd_mul_left (hP.cop ha) h)

/-- What lets a set stay, by one way of the two. -/
theorem Grp.nzr_of (G:Grp n f e) (hp:Sub n f e p) {a:Nat} (ha:a < n) (h:∀ y,y < n→shf n f e p a y=true→p y=true):nzr n f e p a=true:=by
 have h1:=G.shf_len (p:=p) ha
 refine nzr_iff.2 fun y hy=>?_
 by_cases hy2:shf n f e p a y=p y
 ·exact hy2
 ·exfalso
  have:=mem_lt (n:=n) h (fun hh=>hy2 (hh y hy))
  omega

/-- THE COUNT: of a subgroup of a power of P things, and another: things that bring not the first into the second. -/
theorem Grp.syl_count (G:Grp n f e) (hP:isPr P) (hq:Sub n f e q) {i:Nat} (hi:(mem n q).length=P ^ i) (hs:Sub n f e s) :
  ∃ c,n=(mem n fun a=>decide (∀ y,y < n→shf n f e q a y=true→s y=true)).length + P * (mem n s).length * c:=by
 obtain ⟨K,hK⟩:∃ K:Nat→Bool,K=fun a=>decide (∀ y,y < n→shf n f e q a y=true→s y=true):=⟨_,rfl⟩
 have hKi:∀ a,K a=true↔∀ y,y < n→shf n f e q a y=true→s y=true:=fun a=>by rw [hK]; exact decide_eq_true_iff
 have E:=G.dco_eqv hq hs
 have inv:∀ x y,x < n→y < n→dco n f q s x y=true→K x=true→K y=true:=by
  intro x y hx hy h hk
  obtain ⟨u,v,hu,hv,qu,sv,rfl⟩:=dco_iff.1 h
  refine (hKi _).2 fun z hz hzs=>?_
  obtain ⟨w,hw,qw,rfl⟩:=shf_iff.1 hzs
  have hux:=G.cl _ _ hu hx
  rw [← G.cjr_cjr hw hux hv,← G.cjr_cjr hw hu hx]
  have hwu:=G.cjr_lt hw hu
  have h1:q (cjr n f e w u)=true:=hq.mul _ _ (G.cl _ _ (G.iv_lt hu) hw) hu (hq.mul _ _ (G.iv_lt hu) hw (hq.inv _ hu qu) qw) qu
  have h2:s (cjr n f e (cjr n f e w u) x)=true:=(hKi x).1 hk _ (G.cjr_lt hwu hx) (shf_iff.2 ⟨_,hwu,h1,rfl⟩)
  have hwx:=G.cjr_lt hwu hx
  exact hs.mul _ _ (G.cl _ _ (G.iv_lt hv) hwx) hv (hs.mul _ _ (G.iv_lt hv) hwx (hs.inv _ hv sv) h2) sv
 have inv2:∀ x y,x < n→y < n→dco n f q s x y=true→(!K x)=true→(!K y)=true:=by
  intro x y hx hy h hk
  cases hky:K y with
  | false=>rfl
  | true=>rw [inv y x hy hx (E.symm x y hx hy h) hky] at hk; cases hk
 have hsum:=E.part (K:=fun a=>!K a) inv2
 have hdv:∀ l:List Nat,(∀ x∈l,P * (mem n s).length ∣ (mem n (dco n f q s x)).length)→P * (mem n s).length ∣ (l.map fun x=>(mem n (dco n f q s x)).length).sum:=by
  intro l
  induction l with
  | nil=>intro _; exact ⟨0,rfl⟩
  | cons x r ih =>
   intro h
   rw [List.map_cons,List.sum_cons]
   exact Nat.dvd_add (h x (by simp)) (ih fun y hy=>h y (by simp [hy]))
 have hd:=hdv (mem n fun x=>lead (dco n f q s) x && !K x) (fun x hx=>by
  obtain ⟨x1,x2⟩:=mem_mem.1 hx
  rw [Bool.and_eq_true] at x2
  have hc:=G.dco_count hq hs x1
  have hsh:=G.shf_sub hq x1
  have hm:=hsh.and hs
  have hlen:=G.shf_len (p:=q) x1
  obtain ⟨i2,hi2,hmi⟩:=hP.pow_div (k:=i) (d:=(mem n fun y=>shf n f e q x y && s y).length) (by
   rw [← hi,← hlen]
   exact hm.dvd G fun a b ha hb h1 h2=>hsh.mul a b ha hb h1 (by rw [Bool.and_eq_true] at h2; exact h2.1))
  have hne:i2 ≠ i:=fun h=>by
   have hk:K x=true:=(hKi x).2 fun y hy hys=>by
    cases hsy:s y with
    | true=>rfl
    | false =>
     exfalso
     have:=mem_lt (n:=n) (p:=shf n f e q x) (q:=fun y=>shf n f e q x y && s y) (fun a _ h=>by rw [Bool.and_eq_true] at h; exact h.1) (fun hh=>by
      have:=hh y hy
      rw [hys,hsy] at this; cases this)
     rw [hlen,hi,hmi,h] at this
     omega
   rw [hk] at x2; cases x2.2
  rw [hmi,hi] at hc
  obtain ⟨t,ht⟩:∃ t,i=i2 + 1 + t:=⟨i - i2 - 1,by omega⟩
  refine ⟨P ^ t,Nat.eq_of_mul_eq_mul_right (hP.pos i2) ?_⟩
  rw [hc,ht,Nat.pow_add,Nat.pow_succ]
  ac_rfl)
 rw [hsum] at hd
 obtain ⟨c,hc⟩:=hd
 refine ⟨c,?_⟩
 have hsp:(mem n K).length + (mem n fun a=>!K a).length=n:=by
  have h:=List.length_eq_countP_add_countP K (l:=List.range n)
  rw [List.length_range,List.countP_eq_length_filter,List.countP_eq_length_filter] at h
  unfold mem
  rw [show (List.filter (fun a=>!K a) (List.range n))=List.filter (fun a=>decide ¬K a=true) (List.range n) from List.filter_congr fun a _=>by cases K a<;>rfl]
  exact h.symm
 rw [hK] at hsp hc
 omega

/-- Some of Sylow's subgroups. -/
structure Syl (n:Nat) (f:Nat→Nat→Nat) (e P:Nat) (s:Nat→Bool) (j t:Nat):Prop where
 sub:Sub n f e s
 len:(mem n s).length=P ^ j
 num:n=P ^ j * t
 non:¬ P ∣ t

/-- ALL ARE IN ONE, CONJUGATED. -/
theorem Syl.holds {j t:Nat} (hS:Syl n f e P s j t) (G:Grp n f e) (hP:isPr P) (hq:Sub n f e q) {i:Nat} (hi:(mem n q).length=P ^ i):∃ a,a < n∧∀ y,y < n→q y=true→shf n f e s a y=true:=by
 obtain ⟨c,hc⟩:=G.syl_count hP hq hi hS.sub
 by_cases h0:(mem n fun a=>decide (∀ y,y < n→shf n f e q a y=true→s y=true))=[]
 ·exfalso
  rw [h0,hS.len] at hc
  have h1:=hS.num
  rw [List.length_nil,Nat.zero_add] at hc
  have:P ^ j * t=P ^ j * (P * c):=by rw [← h1,← show P * P ^ j * c=P ^ j * (P * c) by ac_rfl]; exact hc
  have:=Nat.eq_of_mul_eq_mul_left (hP.pos j) this
  exact hS.non ⟨c,this⟩
 ·obtain ⟨a,ha⟩:=List.exists_mem_of_ne_nil _ h0
  obtain ⟨a1,a2⟩:=mem_mem.1 ha
  rw [decide_eq_true_eq] at a2
  refine ⟨iv n f e a,G.iv_lt a1,fun y hy hqy=>?_⟩
  rw [G.shf_back (G.iv_lt a1) hy,G.iv_iv a1]
  exact a2 _ (G.cjr_lt hy a1) (shf_iff.2 ⟨y,hy,hqy,rfl⟩)

theorem Syl.shf {j t:Nat} (hS:Syl n f e P s j t) (G:Grp n f e) {a:Nat} (ha:a < n):Syl n f e P (shf n f e s a) j t:=
 ⟨G.shf_sub hS.sub ha,by rw [G.shf_len ha]; exact hS.len,hS.num,hS.non⟩

/-- How many sets there are among the conjugated ones, as a list has them. -/
theorem Grp.conj_num (G:Grp n f e) (hs:Sub n f e s) {α:Type} [DecidableEq α] {code:(Nat→Bool)→α} (hcode:∀ p q:Nat→Bool,code p=code q↔∀ y,y < n→p y=q y) {L:List α} (hnd:L.Nodup)
  (hL:∀ x,x∈L↔∃ a,a < n∧x=code (Go.Proofs.YtboadfahlflmhaaDoor.shf n f e s a)):L.length * (mem n (nzr n f e s)).length=n:=by
 have h:=dbl (R:=fun a x=>decide (code (Go.Proofs.YtboadfahlflmhaaDoor.shf n f e s a)=x)) (L1:=List.range n) (L2:=L) (c1:=1) (c2:=(mem n (nzr n f e s)).length) (fun a ha=>by
  have hm:=(hL _).2 ⟨a,List.mem_range.1 ha,rfl⟩
  have:(L.filter fun w=>decide (code (Go.Proofs.YtboadfahlflmhaaDoor.shf n f e s a)=w)).length=[code (Go.Proofs.YtboadfahlflmhaaDoor.shf n f e s a)].length:=same_len (hnd.filter _) (by simp) fun x=>by
   rw [List.mem_filter,List.mem_singleton,decide_eq_true_eq]
   exact ⟨fun h=>h.2.symm,fun h=>⟨by rw [h]; exact hm,h.symm⟩⟩
  simpa using this) (fun x hx=>by
  obtain ⟨a,ha,rfl⟩:=(hL x).1 hx
  have ia:=G.iv_lt ha
  show (mem n fun b=>decide (code (Go.Proofs.YtboadfahlflmhaaDoor.shf n f e s b)=code (Go.Proofs.YtboadfahlflmhaaDoor.shf n f e s a))).length=_
  refine mem_bij (fun b=>f b (iv n f e a)) (fun b hb h=>⟨G.cl _ _ hb ia,?_⟩) (fun x y hx hy _ _ h=>G.cancel_r ia hx hy h) fun z hz h=>⟨f z a,G.cl _ _ hz ha,?_,?_⟩
  ·rw [decide_eq_true_eq,hcode] at h
   refine nzr_iff.2 fun y hy=>?_
   have hba:=G.cl _ _ hb ia
   rw [G.shf_back hba hy,G.iv_prod hb ia,G.iv_iv ha,← G.cjr_cjr hy ha (G.iv_lt hb),← G.shf_back (p:=s) hb (G.cjr_lt hy ha),h _ (G.cjr_lt hy ha),G.shf_back ha (G.cjr_lt hy ha),G.cjr_iv hy ha]
  ·rw [decide_eq_true_eq,hcode]
   intro y hy
   rw [G.shf_back (G.cl _ _ hz ha) hy,G.iv_prod hz ha,← G.cjr_cjr hy ia (G.iv_lt hz),← G.shf_back (p:=s) hz (G.cjr_lt hy ia),nzr_iff.1 h _ (G.cjr_lt hy ia),← G.shf_back (p:=s) ha hy]
  ·rw [G.assoc z a _ hz ha ia,G.mul_iv ha,G.one_r z hz])
 rw [List.length_range,Nat.mul_one] at h
 exact h.symm

end
end Go.Proofs.YtboadfahlflmhaaDoor

/-
  Plain law: how one of Sylow's subgroups is grown. Conditions: none.
-/
set_option linter.all false
namespace Go.Proofs.YtboadfahlflmhaaDoor
open Go.Pv

noncomputable def gn (n:Nat) (f:Nat→Nat→Nat) (e:Nat) (p:Nat→Bool):Nat→Bool:=Classical.choose (gen_ex n f e p)
theorem gn_iff {n:Nat} {f:Nat→Nat→Nat} {e:Nat} (p:Nat→Bool):∀ a,a < n→(gn n f e p a=true↔Gen n f e p a):=Classical.choose_spec (gen_ex n f e p)

section
variable {n:Nat} {f:Nat→Nat→Nat} {e:Nat} {p q s:Nat→Bool} {P:Nat}

end
end Go.Proofs.YtboadfahlflmhaaDoor

/-
  Plain: chains of subgroups whose steps are as small as can be (Jordan and Hoelder). Conditions: none.
-/
set_option linter.all false
namespace Go.Proofs.YtboadfahlflmhaaDoor

section
variable {n e:Nat} {f:Nat→Nat→Nat} {p q a b:Nat→Bool}
theorem Mxn.nz (G:Grp n f e) (h:Mxn n f e p q) {c:Nat} (hc:c < n) (pc:p c=true):nzr n f e q c=true:=
 G.nzr_of h.sub hc fun y hy hh=>by
  obtain ⟨x,x1,x2,rfl⟩:=shf_iff.1 hh
  exact h.nml c x hc x1 pc x2
theorem Mxn.congr_l {p' : Nat→Bool} (h:Mxn n f e p q) (hp:∀ x,x < n→p' x=p x):Mxn n f e p' q where
 sub:=h.sub
 le x hx hq:=by rw [hp x hx]; exact h.le x hx hq
 nml c x hc hx pc:=h.nml c x hc hx (by rw [← hp c hc]; exact pc)
 ne:=by obtain ⟨x,x1,x2,x3⟩:=h.ne; exact ⟨x,x1,by rw [hp x x1]; exact x2,x3⟩
 mx x hx px qx t ht h1 h2 y hy py:=h.mx x hx (by rwa [← hp x hx]) qx t ht h1 (fun c hc pc=>h2 c hc (by rwa [hp c hc])) y hy (by rwa [← hp y hy])
theorem Mxn.congr_r {q' : Nat→Bool} (G:Grp n f e) (h:Mxn n f e p q) (hs:Sub n f e q') (hq:∀ x,x < n→q' x=q x):Mxn n f e p q' where
 sub:=hs
 le x hx hh:=h.le x hx (by rwa [← hq x hx])
 nml c x hc hx pc hh:=by
  rw [hq _ (G.cjr_lt hx hc)]
  exact h.nml c x hc hx pc (by rwa [← hq x hx])
 ne:=by obtain ⟨x,x1,x2,x3⟩:=h.ne; exact ⟨x,x1,x2,by rw [hq x x1]; exact x3⟩
 mx x hx px qx t ht h1 h2 y hy py:=h.mx x hx px (by rwa [← hq x hx]) t ht (fun y hy hh=>h1 y hy (by rwa [hq y hy])) h2 y hy py

/-- A chain from a subgroup down to the one. -/
def Chn (n:Nat) (f:Nat→Nat→Nat) (e:Nat):(Nat→Bool)→List (Nat→Bool)→Prop
 | p,[]=>∀ x,x < n→p x=true→x=e
 | p,q :: l=>Mxn n f e p q∧Chn n f e q l
def idx (n:Nat):(Nat→Bool)→List (Nat→Bool)→List Nat
 | _,[]=>[]
 | p,q :: l=>(mem n p).length / (mem n q).length :: idx n q l
theorem Chn.congr {p' : Nat→Bool} (hp:∀ x,x < n→p' x=p x):∀ {l:List (Nat→Bool)},Chn n f e p l→Chn n f e p' l∧idx n p' l=idx n p l
 | [],h=>⟨fun x hx hh=>h x hx (by rwa [← hp x hx]),rfl⟩
 | q :: l,h=>⟨⟨h.1.congr_l hp,h.2⟩,by show _ / _ :: _=_ / _ :: _; rw [mem_congr hp]⟩
end
end Go.Proofs.YtboadfahlflmhaaDoor

/-
  Plain: homomorphisms of a subgroup onto a group; chains go there and back; steps in which things commute. Conditions: none.
-/
set_option linter.all false
namespace Go.Proofs.YtboadfahlflmhaaDoor

/-- A homomorphism of a subgroup onto a group. -/
structure Hm (n:Nat) (f:Nat→Nat→Nat) (e:Nat) (p:Nat→Bool) (k:Nat) (g:Nat→Nat→Nat) (d:Nat) (φ:Nat→Nat):Prop where
 grp:Grp k g d
 sub:Sub n f e p
 lt:∀ x,x < n→p x=true→φ x < k
 mul:∀ x y,x < n→y < n→p x=true→p y=true→φ (f x y)=g (φ x) (φ y)
 onto:∀ i,i < k→∃ x,x < n∧p x=true∧φ x=i

section
variable {n e k d:Nat} {f g:Nat→Nat→Nat} {p:Nat→Bool} {φ:Nat→Nat}
theorem Hm.one (H:Hm n f e p k g d φ) (G:Grp n f e):φ e=d:=by
 have h1:=H.mul e e G.el G.el H.sub.one H.sub.one
 have hl:=H.lt e G.el H.sub.one
 rw [G.one_l e G.el] at h1
 have h2:g (φ e) d=g (φ e) (φ e):=by rw [← h1,H.grp.one_r _ hl]
 exact (H.grp.cancel_l hl H.grp.el hl h2).symm
theorem Hm.iv (H:Hm n f e p k g d φ) (G:Grp n f e) {x:Nat} (hx:x < n) (px:p x=true):φ (Go.Proofs.YtboadfahlflmhaaDoor.iv n f e x)=Go.Proofs.YtboadfahlflmhaaDoor.iv k g d (φ x):=by
 have ix:=G.iv_lt hx
 have pix:=H.sub.inv x hx px
 refine H.grp.iv_unique (H.lt x hx px) (H.lt _ ix pix) (.inl ?_)
 rw [← H.mul _ _ hx ix px pix,G.mul_iv hx,H.one G]
theorem Hm.cjr (H:Hm n f e p k g d φ) (G:Grp n f e) {x c:Nat} (hx:x < n) (hc:c < n) (px:p x=true) (pc:p c=true):φ (Go.Proofs.YtboadfahlflmhaaDoor.cjr n f e x c)=Go.Proofs.YtboadfahlflmhaaDoor.cjr k g d (φ x) (φ c):=by
 have ic:=G.iv_lt hc
 have pi:=H.sub.inv c hc pc
 show φ (f (f _ _) _)=g (g _ _) _
 rw [H.mul _ _ (G.cl _ _ ic hx) hc (H.sub.mul _ _ ic hx pi px) pc,H.mul _ _ ic hx pi px,H.iv G hc pc]
theorem Hm.cmt (H:Hm n f e p k g d φ) (G:Grp n f e) {x c:Nat} (hx:x < n) (hc:c < n) (px:p x=true) (pc:p c=true):φ (Go.Proofs.YtboadfahlflmhaaDoor.cmt n f e x c)=Go.Proofs.YtboadfahlflmhaaDoor.cmt k g d (φ x) (φ c):=by
 have ic:=G.iv_lt hc
 have ix:=G.iv_lt hx
 have pic:=H.sub.inv c hc pc
 have pix:=H.sub.inv x hx px
 show φ (f (f _ _) (f _ _))=g (g _ _) (g _ _)
 rw [H.mul _ _ (G.cl _ _ ix ic) (G.cl _ _ hx hc) (H.sub.mul _ _ ix ic pix pic) (H.sub.mul _ _ hx hc px pc),H.mul _ _ ix ic pix pic,H.mul _ _ hx hc px pc,H.iv G hc pc,H.iv G hx px]
theorem cmt_in {q:Nat→Bool} (G:Grp n f e) (hq:Sub n f e q) {x c:Nat} (hx:x < n) (hc:c < n) (px:q x=true) (pc:q c=true):q (cmt n f e x c)=true:=
 hq.mul _ _ (G.cl _ _ (G.iv_lt hx) (G.iv_lt hc)) (G.cl _ _ hx hc) (hq.mul _ _ (G.iv_lt hx) (G.iv_lt hc) (hq.inv _ hx px) (hq.inv _ hc pc)) (hq.mul _ _ hx hc px pc)

/-- What goes into a set. -/
def pre (p:Nat→Bool) (φ:Nat→Nat) (b:Nat→Bool) (x:Nat):Bool:=p x && b (φ x)
theorem pre_iff {b:Nat→Bool} {x:Nat} : pre p φ b x=true↔p x=true∧b (φ x)=true:=by unfold pre; rw [Bool.and_eq_true]
theorem Hm.pre_sub (H:Hm n f e p k g d φ) (G:Grp n f e) {b:Nat→Bool} (hb:Sub k g d b):Sub n f e (pre p φ b):=
 sub_of G (pre_iff.2 ⟨H.sub.one,by rw [H.one G]; exact hb.one⟩) fun x y hx hy h1 h2=>by
  obtain ⟨h1,h3⟩:=pre_iff.1 h1
  obtain ⟨h2,h4⟩:=pre_iff.1 h2
  exact pre_iff.2 ⟨H.sub.mul x y hx hy h1 h2,by rw [H.mul x y hx hy h1 h2]; exact hb.mul _ _ (H.lt x hx h1) (H.lt y hy h2) h3 h4⟩
theorem Hm.of_pre (H:Hm n f e p k g d φ) (G:Grp n f e) {a b:Nat→Bool} (hb:Sub k g d b) (h:Mxn n f e (pre p φ a) (pre p φ b)):Mxn k g d a b where
 sub:=hb
 le i hi bi:=by
  obtain ⟨x,x1,x2,rfl⟩:=H.onto i hi
  exact (pre_iff.1 (h.le x x1 (pre_iff.2 ⟨x2,bi⟩))).2
 nml c i hc hi ac bi:=by
  obtain ⟨x,x1,x2,rfl⟩:=H.onto i hi
  obtain ⟨y,y1,y2,rfl⟩:=H.onto c hc
  have:=(pre_iff.1 (h.nml y x y1 x1 (pre_iff.2 ⟨y2,ac⟩) (pre_iff.2 ⟨x2,bi⟩))).2
  rwa [H.cjr G x1 y1 x2 y2] at this
 ne:=by
  obtain ⟨x,x1,x2,x3⟩:=h.ne
  obtain ⟨px,ax⟩:=pre_iff.1 x2
  unfold pre at x3
  rw [px,Bool.true_and] at x3
  exact ⟨_,H.lt x x1 px,ax,x3⟩
 mx i hi ai bi t ht h1 h2 j hj aj:=by
  obtain ⟨x,x1,x2,rfl⟩:=H.onto i hi
  obtain ⟨y,y1,y2,rfl⟩:=H.onto j hj
  refine (pre_iff.1 (h.mx x x1 (pre_iff.2 ⟨x2,ai⟩) (by unfold pre; rw [bi,Bool.and_false]) (pre p φ t) (H.pre_sub G ht) (fun z hz hh=>?_) (fun c hc hh=>?_) y y1 (pre_iff.2 ⟨y2,aj⟩))).2
  ·obtain ⟨pz,bz⟩:=pre_iff.1 hh
   exact pre_iff.2 ⟨pz,h1 _ (H.lt z hz pz) bz⟩
  ·obtain ⟨pc,ac⟩:=pre_iff.1 hh
   exact pre_iff.2 ⟨cjr_in G H.sub x1 hc x2 pc,by rw [H.cjr G x1 hc x2 pc]; exact h2 _ (H.lt c hc pc) ac⟩

/-- Things of the first commute, up to the second. -/
def Abl (n:Nat) (f:Nat→Nat→Nat) (e:Nat) (p q:Nat→Bool):Prop:=∀ x y,x < n→y < n→p x=true→p y=true→q (cmt n f e x y)=true
def AbC (n:Nat) (f:Nat→Nat→Nat) (e:Nat):(Nat→Bool)→List (Nat→Bool)→Prop
 | _,[]=>True
 | p,q :: l=>Abl n f e p q∧AbC n f e q l
theorem AbC.congr {p' : Nat→Bool} (hp:∀ x,x < n→p' x=p x):∀ {l:List (Nat→Bool)},AbC n f e p l→AbC n f e p' l
 | [],_=>trivial
 | q :: l,h=>⟨fun x y hx hy h1 h2=>h.1 x y hx hy (by rwa [← hp x hx]) (by rwa [← hp y hy]),h.2⟩
theorem Chn.subs (G:Grp n f e):∀ {l:List (Nat→Bool)} {p:Nat→Bool},Chn n f e p l→∀ q∈l,Sub n f e q
 | [],_,_,q,hq=>by simp at hq
 | r :: l,p,h,q,hq=>by
  rcases List.mem_cons.1 hq with rfl | hq
  ·exact h.1.sub
  ·exact Chn.subs G h.2 q hq

end
end Go.Proofs.YtboadfahlflmhaaDoor

/-
  Plain law, FRATTINI'S ARGUMENT. Conditions: none.
-/
set_option linter.all false
namespace Go.Proofs.YtboadfahlflmhaaDoor
open Go.Pv

section
variable {n e P:Nat} {f:Nat→Nat→Nat} {q s:Nat→Bool}

theorem Syl.cong {f g:Nat→Nat→Nat} {j t:Nat} (hY:Syl n g e P s j t) (G:Grp n f e) (h:∀ a b,a < n→b < n→g a b=f a b):Syl n f e P s j t:=
 ⟨hY.sub.cong_op G h,hY.len,hY.num,hY.non⟩

end
end Go.Proofs.YtboadfahlflmhaaDoor

/-
  Nilpotent groups; classes of a quotient; the quotient by commutators. Conditions: none.
-/
set_option linter.all false
namespace Go.Proofs.YtboadfahlflmhaaDoor
open Go.Pv

section
variable {n:Nat} {f:Nat→Nat→Nat} {e:Nat}
/-! ### Classes of a quotient -/

theorem lead_le {k:Nat} {r1 r2:Nat→Nat→Bool} (E1:Eqv n r1) (E2:Eqv k r2) (rep:Nat→Nat) (hr:∀ i,i < k→rep i < n) (h:∀ i j,i < k→j < k→r1 (rep i) (rep j)=true→r2 i j=true):(mem k (lead r2)).length≤(mem n (lead r1)).length:=by
 have hex:∀ i,∃ x,i < k→x < n∧lead r1 x=true∧r1 x (rep i)=true:=fun i=>by
  by_cases hi:i < k
  ·obtain ⟨x,h1,h2,h3⟩:=E1.least (hr i hi)
   exact ⟨x,fun _=>⟨h1,h2,h3⟩⟩
  ·exact ⟨0,fun h=>absurd h hi⟩
 obtain ⟨g,hg⟩:=Classical.axiomOfChoice hex
 rw [← List.length_map (f:=g) («as»:=mem k (lead r2))]
 refine List.Nodup.length_le_of_subset (nodup_map (List.nodup_range.filter _) fun i hi j hj he=>?_) fun x hx=>?_
 ·obtain ⟨i1,i2⟩:=mem_mem.1 hi
  obtain ⟨j1,j2⟩:=mem_mem.1 hj
  obtain ⟨a1,a2,a3⟩:=hg i i1
  obtain ⟨b1,b2,b3⟩:=hg j j1
  rw [← he] at b3
  exact E2.lead_eq i1 j1 i2 j2 (h i j i1 j1 (E1.trans _ _ _ (hr i i1) a1 (hr j j1) (E1.symm _ _ a1 (hr i i1) a3) b3))
 ·obtain ⟨i,hi,rfl⟩:=List.mem_map.1 hx
  obtain ⟨i1,i2⟩:=mem_mem.1 hi
  exact mem_mem.2 ⟨(hg i i1).1,(hg i i1).2.1⟩
theorem Qm.iv {k:Nat} {cl rep:Nat→Nat} (Q:Qm n f k cl rep) (G:Grp n f e) {a:Nat} (ha:a < n):iv k (qop f cl rep) (cl e) (cl a)=cl (Go.Proofs.YtboadfahlflmhaaDoor.iv n f e a):=
 ((Q.grp G).iv_unique (Q.lt a ha) (Q.lt _ (G.iv_lt ha)) (.inl (by rw [Q.op ha (G.iv_lt ha),G.mul_iv ha]))).symm
theorem Qm.cjb {k:Nat} {cl rep:Nat→Nat} (Q:Qm n f k cl rep) (G:Grp n f e) {x y:Nat} (hx:x < n) (hy:y < n) (h:cjb n f e x y=true):cjb k (qop f cl rep) (cl e) (cl x) (cl y)=true:=by
 obtain ⟨a,ha,rfl⟩:=cjb_iff.1 h
 have ia:=G.iv_lt ha
 refine cjb_iff.2 ⟨cl a,Q.lt a ha,?_⟩
 rw [Q.iv G ha,Q.op ia hx,Q.op (G.cl _ _ ia hx) ha]
/-- A quotient has no more classes. -/
theorem Qm.classes {k:Nat} {cl rep:Nat→Nat} (Q:Qm n f k cl rep) (G:Grp n f e):(mem k (lead (Go.Proofs.YtboadfahlflmhaaDoor.cjb k (qop f cl rep) (cl e)))).length≤(mem n (lead (Go.Proofs.YtboadfahlflmhaaDoor.cjb n f e))).length:=
 lead_le G.cjb_eqv (Q.grp G).cjb_eqv rep Q.rlt fun i j hi hj h=>by
  have:=Q.cjb G (Q.rlt i hi) (Q.rlt j hj) h
  rwa [Q.at_ i hi,Q.at_ j hj] at this
end
end Go.Proofs.YtboadfahlflmhaaDoor

/-
  Plain law: nilpotent is just where all of Sylow's subgroups are normal; both central series are as long. Conditions: none.
-/
set_option linter.all false
namespace Go.Proofs.YtboadfahlflmhaaDoor
open Go.Pv

section
variable {n e P:Nat} {f:Nat→Nat→Nat} {p q s:Nat→Bool}

/-! ### Both series -/
section
variable {nl:(Nat→Bool)→Nat→Bool}
theorem Stp.le {T:Nat→Nat→Bool} {K k:Nat} (h:Stp n T K) (he:∀ a,a < n→T (k + 1) a=T k a):K≤k:=
 Nat.le_of_not_lt fun hh=>h.ne k hh he
end

/-! ### Sylow's subgroups of what is nilpotent -/
/-! ### A group of a power of P things, and a normal subgroup that is not all -/
/-! ### Where all of Sylow's subgroups are normal -/
end
end Go.Proofs.YtboadfahlflmhaaDoor

/-
  Plain: each step of a chain has its quotient; it is of a prime where things commute; what is solvable. Conditions: none.
-/
set_option linter.all false
namespace Go.Proofs.YtboadfahlflmhaaDoor

section
variable {n e:Nat} {f:Nat→Nat→Nat} {p q:Nat→Bool}
/-- The quotient of a group. -/
theorem quot_hm (G:Grp n f e) (hq:Sub n f e q) (hN:Nml n f e q):Hm n f e (fun _=>true) (cst n (dco n f q (onp e))).length (qop f (clq n (dco n f q (onp e))) (rpq n (dco n f q (onp e)))) (clq n (dco n f q (onp e)) e) (clq n (dco n f q (onp e))):=by
 have E:=G.dco_eqv hq G.onp_sub
 have Q:=cst_qm G E fun a b c d ha hb hc hd h1 h2=>G.rco_cong hq hN ha hb hc hd h1 h2
 exact ⟨Q.grp G,G.all_sub,fun x hx _=>Q.lt x hx,fun x y hx hy _ _=>(Q.op hx hy).symm,fun i hi=>⟨_,Q.rlt i hi,rfl,Q.at_ i hi⟩⟩
theorem quot_ker (G:Grp n f e) (hq:Sub n f e q) {x:Nat} (hx:x < n):clq n (dco n f q (onp e)) x=clq n (dco n f q (onp e)) e↔q x=true:=by
 have E:=G.dco_eqv hq G.onp_sub
 rw [clq_iff E hx G.el,G.rco_iff hx G.el,G.one_l _ (G.iv_lt hx)]
 exact ⟨fun h=>by have:=hq.inv _ (G.iv_lt hx) h; rwa [G.iv_iv hx] at this,fun h=>hq.inv x hx h⟩
theorem quot_num (G:Grp n f e) (hq:Sub n f e q):(cst n (dco n f q (onp e))).length * (mem n q).length=n:=by
 rw [cst_len]; exact G.rco_num hq
/-- The part of a group. -/
theorem part_hm (G:Grp n f e) (hp:Sub n f e p):Hm n f e p (thl n p).length (pop n f p) (pix p e) (pix p):=
 ⟨ptb_grp G hp,hp,fun x hx px=>(pix_at hx px).1,fun x y hx hy px py=>(pop_pix hp hx hy px py).symm,fun i hi=>⟨lat n p i,(lat_at hi).1,(lat_at hi).2.1,(lat_at hi).2.2.2⟩⟩
variable {k k2 d d2:Nat} {g g2:Nat→Nat→Nat} {φ ψ:Nat→Nat}
theorem Hm.comp (H:Hm n f e p k g d φ) (K:Hm k g d (fun _=>true) k2 g2 d2 ψ):Hm n f e p k2 g2 d2 fun x=>ψ (φ x) where
 grp:=K.grp
 sub:=H.sub
 lt x hx px:=K.lt _ (H.lt x hx px) rfl
 mul x y hx hy px py:=by
  show ψ (φ (f x y))=_
  rw [H.mul x y hx hy px py,K.mul _ _ (H.lt x hx px) (H.lt y hy py) rfl rfl]
 onto i hi:=by
  obtain ⟨y,y1,_,rfl⟩:=K.onto i hi
  obtain ⟨x,x1,x2,rfl⟩:=H.onto y y1
  exact ⟨x,x1,x2,rfl⟩
theorem Hm.cong_op (H:Hm n f e p k g d φ) (h:∀ a b,a < k→b < k→g2 a b=g a b) (G2:Grp k g2 d):Hm n f e p k g2 d φ:=
 ⟨G2,H.sub,H.lt,fun x y hx hy px py=>by rw [H.mul x y hx hy px py,h _ _ (H.lt x hx px) (H.lt y hy py)],H.onto⟩
/-- What stands of a smaller one in the part. -/
def dwn (n:Nat) (p q:Nat→Bool) (i:Nat):Bool:=q (lat n p i)
theorem lft_dwn (hle:∀ x,x < n→q x=true→p x=true):∀ x,x < n→lft p (dwn n p q) x=q x:=fun x hx=>by
 unfold lft dwn
 cases px:p x with
 | false =>
  cases qx:q x with
  | false=>rfl
  | true=>rw [hle x hx qx] at px; cases px
 | true=>rw [lat_pix hx px]; rfl
theorem dwn_sub (G:Grp n f e) (hp:Sub n f e p) (hq:Sub n f e q):Sub (thl n p).length (pop n f p) (pix p e) (dwn n p q):=
 sub_of (ptb_grp G hp) (by unfold dwn; rw [lat_pix G.el hp.one]; exact hq.one) fun i j hi hj h1 h2=>by
  unfold dwn at h1 h2 ⊢
  rw [(pop_at G hp hi hj).2]
  exact hq.mul _ _ (lat_at hi).1 (lat_at hj).1 h1 h2
theorem dwn_nml (G:Grp n f e) (hp:Sub n f e p):Nml (thl n p).length (pop n f p) (pix p e) (dwn n p q)↔∀ a x,a < n→x < n→p a=true→p x=true→q x=true→q (cjr n f e x a)=true:=by
 have H:=part_hm G hp
 constructor
 ·intro h a x ha hx pa px qx
  have:=h (pix p a) (pix_at ha pa).1 (pix p x) (pix_at hx px).1 (by unfold dwn; rw [lat_pix hx px]; exact qx)
  rw [← H.cjr G hx ha px pa] at this
  unfold dwn at this
  rwa [lat_pix (G.cjr_lt hx ha) (cjr_in G hp hx ha px pa)] at this
 ·intro h i hi j hj hd
  obtain ⟨a1,a2,_,a4⟩:=lat_at hi
  obtain ⟨b1,b2,_,b4⟩:=lat_at hj
  have:=h _ _ a1 b1 a2 b2 hd
  rw [← a4,← b4,← H.cjr G b1 a1 b2 a2]
  unfold dwn
  rwa [lat_pix (G.cjr_lt b1 a1) (cjr_in G hp b1 a1 b2 a2)]
theorem dwn_len (hle:∀ x,x < n→q x=true→p x=true):(mem (thl n p).length (dwn n p q)).length=(mem n q).length:=by
 have h1:=congrArg List.length (lft_thl p (dwn n p q) n)
 rw [List.length_map] at h1
 have e1:(thl (thl n p).length (dwn n p q)).length=(mem (thl n p).length (dwn n p q)).length:=thl_len _ _
 have e2:(thl n (lft p (dwn n p q))).length=(mem n (lft p (dwn n p q))).length:=thl_len _ _
 rw [← e1,h1,e2,mem_congr (lft_dwn hle)]

/-- The quotient of a subgroup by what is normal in it. -/
theorem step_hm (G:Grp n f e) (hp:Sub n f e p) (hq:Sub n f e q) (hle:∀ x,x < n→q x=true→p x=true) (hN:∀ a x,a < n→x < n→p a=true→p x=true→q x=true→q (cjr n f e x a)=true) :
  ∃ k g d φ,Hm n f e p k g d φ∧(∀ x,x < n→pre p φ (onp d) x=q x)∧k * (mem n q).length=(mem n p).length:=by
 have H:=part_hm G hp
 have P:=H.grp
 have ds:=dwn_sub G hp hq
 have K:=quot_hm P ds ((dwn_nml G hp).2 hN)
 refine ⟨_,_,_,_,H.comp K,fun x hx=>?_,?_⟩
 ·unfold pre
  cases px:p x with
  | false =>
   cases qx:q x with
   | false=>rfl
   | true=>rw [hle x hx qx] at px; cases px
  | true =>
   rw [Bool.true_and,Bool.eq_iff_iff,onp_iff,quot_ker P ds (H.lt x hx px)]
   unfold dwn
   rw [lat_pix hx px]
 ·have:=quot_num P ds
  rw [dwn_len hle] at this
  have e1:(thl n p).length=(mem n p).length:=thl_len _ _
  rw [← e1]; exact this
theorem Mxn.hm (G:Grp n f e) (hp:Sub n f e p) (h:Mxn n f e p q):∃ k g d φ,Hm n f e p k g d φ∧(∀ x,x < n→pre p φ (onp d) x=q x)∧k * (mem n q).length=(mem n p).length∧Mxn k g d (fun _=>true) (onp d):=by
 obtain ⟨k,g,d,φ,H,h1,h2⟩:=step_hm G hp h.sub h.le fun a x ha hx pa _ qx=>h.nml a x ha hx pa qx
 refine ⟨k,g,d,φ,H,h1,h2,H.of_pre G H.grp.onp_sub ?_⟩
 refine (h.congr_r G (H.pre_sub G H.grp.onp_sub) h1).congr_l fun x hx=>?_
 show (p x && true)=p x
 rw [Bool.and_true]

end
end Go.Proofs.YtboadfahlflmhaaDoor

/-
  Plain: homomorphisms, and how a map of some things is spread. Conditions: none.
-/
set_option linter.all false
namespace Go.Proofs.YtboadfahlflmhaaDoor

/-- A homomorphism. -/
structure Hmo (n:Nat) (f:Nat→Nat→Nat) (N:Nat) (g:Nat→Nat→Nat) (φ:Nat→Nat):Prop where
 lt:∀ a,a < n→φ a < N
 mul:∀ a b,a < n→b < n→φ (f a b)=g (φ a) (φ b)

/-- It takes some things where it is told. -/
def Ext (n:Nat) (f:Nat→Nat→Nat) (N:Nat) (g:Nat→Nat→Nat) (F T:List Nat) (φ:Nat→Nat):Prop:=Hmo n f N g φ∧∀ i,i < F.length→φ (F.getD i 0)=T.getD i 0

/-- What is reached: a thing, and what must stand for it. -/
inductive Rch (f:Nat→Nat→Nat) (e:Nat) (g:Nat→Nat→Nat) (d:Nat) (F T:List Nat):Nat→Nat→Prop
 | one:Rch f e g d F T e d
 | step {a y:Nat} (i:Nat) (hi:i < F.length) (h:Rch f e g d F T a y):Rch f e g d F T (f a (F.getD i 0)) (g y (T.getD i 0))

/-- A map as a row: -1 where nothing stands yet. -/
def prow (n:Nat) (S:Nat→Bool) (ψ:Nat→Nat):List Int:=(List.range n).map fun a=>if S a then ((ψ a:Nat):Int) else -1
def tbm (n:Nat) (φ:Nat→Nat):List Int:=(List.range n).map fun a=>((φ a:Nat):Int)
def upd1 (S:Nat→Bool) (b:Nat):Nat→Bool:=fun x=>S x || decide (x=b)
def updF (ψ:Nat→Nat) (b y:Nat):Nat→Nat:=fun x=>if x=b then y else ψ x

theorem prow_len (n:Nat) (S:Nat→Bool) (ψ:Nat→Nat):(prow n S ψ).length=n:=by simp [prow]
theorem tbm_len (n:Nat) (φ:Nat→Nat):(tbm n φ).length=n:=by simp [tbm]
theorem prow_get {n:Nat} {S:Nat→Bool} {ψ:Nat→Nat} {a:Nat} (ha:a < n):(prow n S ψ).getD a 0=if S a then ((ψ a:Nat):Int) else -1:=by
 simp [prow,List.getD,ha]
theorem tbm_get {n:Nat} {φ:Nat→Nat} {a:Nat} (ha:a < n):(tbm n φ).getD a 0=((φ a:Nat):Int):=by
 simp [tbm,List.getD,ha]
theorem prow_set {n:Nat} {S:Nat→Bool} {ψ:Nat→Nat} {b y:Nat} (hb:b < n) (hS:S b=false):(prow n S ψ).set b ((y:Nat):Int)=prow n (upd1 S b) (updF ψ b y):=by
 refine List.ext_getElem (by simp [prow]) fun i h1 h2=>?_
 rw [List.getElem_set]
 by_cases e:b=i
 ·subst e
  simp [prow,upd1,updF]
 ·rw [if_neg e]
  simp [prow,upd1,updF,Ne.symm e]
theorem prow_all {n:Nat} {S:Nat→Bool} {ψ φ:Nat→Nat} (h:∀ a,a < n→S a=true∧ψ a=φ a):prow n S ψ=tbm n φ:=by
 refine List.map_congr_left fun a ha=>?_
 obtain ⟨h1,h2⟩:=h a (List.mem_range.1 ha)
 rw [h1,h2]; rfl
theorem upd1_true {S:Nat→Bool} {b x:Nat} : upd1 S b x=true↔S x=true∨x=b:=by simp [upd1]
theorem updF_ne {ψ:Nat→Nat} {b y x:Nat} (h:x ≠ b):updF ψ b y x=ψ x:=by simp [updF,h]
theorem updF_eq {ψ:Nat→Nat} {b y:Nat} : updF ψ b y b=y:=by simp [updF]

/-- How many stand out. -/
def outs (n:Nat) (S:Nat→Bool):Nat:=(mem n fun a=>!S a).length
theorem outs_upd {n:Nat} {S:Nat→Bool} {b:Nat} (hb:b < n) (hS:S b=false):outs n (upd1 S b) + 1=outs n S:=by
 unfold outs mem
 induction n with
 | zero=>omega
 | succ n ih =>
  rw [List.range_succ,List.filter_append,List.filter_append,List.length_append,List.length_append]
  by_cases e:b=n
  ·subst e
   have h0:(List.range b).filter (fun a=>!upd1 S b a)=(List.range b).filter (fun a=>!S a):=List.filter_congr fun x hx=>by
    have:=List.mem_range.1 hx
    simp [upd1,show x ≠ b by omega]
   rw [h0]
   simp [upd1,hS]
  ·have:=ih (by omega)
   have h1:upd1 S b n=S n:=by simp [upd1,Ne.symm e]
   simp only [List.filter_cons,h1,List.filter_nil]
   omega

section
variable {n N e d:Nat} {f g:Nat→Nat→Nat} {F T:List Nat} {φ:Nat→Nat}
theorem Hmo.one (G:Grp n f e) (K:Grp N g d) (h:Hmo n f N g φ):φ e=d:=by
 have h1:=h.mul e e G.el G.el
 rw [G.one_l e G.el] at h1
 have h2:=h.lt e G.el
 have h3:=K.assoc (iv N g d (φ e)) (φ e) (φ e) (K.iv_lt h2) h2 h2
 rw [K.iv_mul h2,← h1,K.iv_mul h2,K.one_l _ h2] at h3
 exact h3
theorem Rch.fun_ (G:Grp n f e) (K:Grp N g d) (hF:∀ i,i < F.length→F.getD i 0 < n) (h:Ext n f N g F T φ) {a y:Nat} (hr:Rch f e g d F T a y):a < n∧φ a=y:=by
 induction hr with
 | one=>exact ⟨G.el,h.1.one G K⟩
 | step i hi _ ih =>
  obtain ⟨h1,h2⟩:=ih
  exact ⟨G.cl _ _ h1 (hF i hi),by rw [h.1.mul _ _ h1 (hF i hi),h2,h.2 i hi]⟩

/-- Where the spreading stands. -/
structure Sprd (n:Nat) (f:Nat→Nat→Nat) (e N:Nat) (g:Nat→Nat→Nat) (d:Nat) (F T:List Nat) (S:Nat→Bool) (ψ:Nat→Nat) (W:List Nat):Prop where
 one:S e=true∧ψ e=d
 lt:∀ a,a < n→S a=true→ψ a < N
 rch:∀ a,a < n→S a=true→Rch f e g d F T a (ψ a)
 wt:∀ a∈W,a < n∧S a=true
 cl:∀ a,a < n→S a=true→a ∉ W→∀ i,i < F.length→S (f a (F.getD i 0))=true∧ψ (f a (F.getD i 0))=g (ψ a) (T.getD i 0)

/-- Within a round. -/
structure Sprd2 (n:Nat) (f:Nat→Nat→Nat) (e N:Nat) (g:Nat→Nat→Nat) (d:Nat) (F T:List Nat) (a0 i0:Nat) (S:Nat→Bool) (ψ:Nat→Nat) (W:List Nat):Prop where
 one:S e=true∧ψ e=d
 lt:∀ a,a < n→S a=true→ψ a < N
 rch:∀ a,a < n→S a=true→Rch f e g d F T a (ψ a)
 wt:∀ a∈W,a < n∧S a=true
 ha:a0 < n∧S a0=true
 cl:∀ a,a < n→S a=true→a ∉ W→∀ i,i < F.length→(a=a0→i < i0)→S (f a (F.getD i 0))=true∧ψ (f a (F.getD i 0))=g (ψ a) (T.getD i 0)

theorem Sprd.begin (G:Grp n f e) (K:Grp N g d):Sprd n f e N g d F T (upd1 (fun _=>false) e) (updF (fun _=>0) e d) [e] where
 one:=⟨by simp [upd1],updF_eq⟩
 lt a ha h:=by
  have:a=e:=by simpa [upd1] using h
  rw [this,updF_eq]; exact K.el
 rch a ha h:=by
  have:a=e:=by simpa [upd1] using h
  rw [this,updF_eq]; exact .one
 wt a ha:=by
  have:a=e:=by simpa using ha
  rw [this]; exact ⟨G.el,by simp [upd1]⟩
 cl a ha h hw:=by
  have:a=e:=by simpa [upd1] using h
  exact absurd (by simp [this]) hw
theorem Sprd.pop {S:Nat→Bool} {ψ:Nat→Nat} {a:Nat} {W:List Nat} (h:Sprd n f e N g d F T S ψ (a :: W)):Sprd2 n f e N g d F T a 0 S ψ W where
 one:=h.one
 lt:=h.lt
 rch:=h.rch
 wt x hx:=h.wt x (by simp [hx])
 ha:=h.wt a (by simp)
 cl x hx hS hW i hi hai:=by
  by_cases e:x=a
  ·have:=hai e; omega
  ·exact h.cl x hx hS (by simp [e,hW]) i hi
theorem Sprd2.done {S:Nat→Bool} {ψ:Nat→Nat} {a:Nat} {W:List Nat} (h:Sprd2 n f e N g d F T a F.length S ψ W):Sprd n f e N g d F T S ψ W where
 one:=h.one
 lt:=h.lt
 rch:=h.rch
 wt:=h.wt
 cl x hx hS hW i hi:=h.cl x hx hS hW i hi fun _=>hi
theorem Sprd2.push (G:Grp n f e) (K:Grp N g d) (hF:∀ i,i < F.length→F.getD i 0 < n) (hT:∀ i,i < F.length→T.getD i 0 < N) {S:Nat→Bool} {ψ:Nat→Nat} {a i:Nat} {W:List Nat} (h:Sprd2 n f e N g d F T a i S ψ W) (hi:i < F.length) (hb:S (f a (F.getD i 0))=false) :
  Sprd2 n f e N g d F T a (i + 1) (upd1 S (f a (F.getD i 0))) (updF ψ (f a (F.getD i 0)) (g (ψ a) (T.getD i 0))) (W++[f a (F.getD i 0)]):=by
 have hbn:=G.cl _ _ h.ha.1 (hF i hi)
 have hne:∀ x,S x=true→x ≠ f a (F.getD i 0):=fun x hx e=>by rw [e,hb] at hx; cases hx
 refine ⟨⟨upd1_true.2 (.inl h.one.1),by rw [updF_ne (hne _ h.one.1)]; exact h.one.2⟩,fun x hx hS=>?_,fun x hx hS=>?_,fun x hx=>?_,⟨h.ha.1,upd1_true.2 (.inl h.ha.2)⟩,fun x hx hS hW j hj hji=>?_⟩
 ·rcases upd1_true.1 hS with h1 | rfl
  ·rw [updF_ne (hne _ h1)]; exact h.lt x hx h1
  ·rw [updF_eq]; exact K.cl _ _ (h.lt a h.ha.1 h.ha.2) (hT i hi)
 ·rcases upd1_true.1 hS with h1 | rfl
  ·rw [updF_ne (hne _ h1)]; exact h.rch x hx h1
  ·rw [updF_eq]; exact .step i hi (h.rch a h.ha.1 h.ha.2)
 ·rcases List.mem_append.1 hx with hx | hx
  ·obtain ⟨h1,h2⟩:=h.wt x hx
   exact ⟨h1,upd1_true.2 (.inl h2)⟩
  ·have:x=f a (F.getD i 0):=by simpa using hx
   rw [this]; exact ⟨hbn,upd1_true.2 (.inr rfl)⟩
 ·have hW1:x ∉ W:=fun hh=>hW (by simp [hh])
  have hxb:x ≠ f a (F.getD i 0):=fun hh=>hW (by simp [hh])
  have hSx:S x=true:=(upd1_true.1 hS).resolve_right hxb
  rw [updF_ne hxb]
  by_cases e:x=a∧j=i
  ·obtain ⟨rfl,rfl⟩:=e
   exact ⟨upd1_true.2 (.inr rfl),updF_eq⟩
  ·obtain ⟨k1,k2⟩:=h.cl x hx hSx hW1 j hj fun ea=>by
    have:=hji ea
    have:j ≠ i:=fun ej=>e ⟨ea,ej⟩
    omega
   exact ⟨upd1_true.2 (.inl k1),by rw [updF_ne (hne _ k1)]; exact k2⟩
theorem Sprd2.keep {S:Nat→Bool} {ψ:Nat→Nat} {a i:Nat} {W:List Nat} (h:Sprd2 n f e N g d F T a i S ψ W) (hb:S (f a (F.getD i 0))=true) (hv:ψ (f a (F.getD i 0))=g (ψ a) (T.getD i 0)) :
  Sprd2 n f e N g d F T a (i + 1) S ψ W:=
 ⟨h.one,h.lt,h.rch,h.wt,h.ha,fun x hx hS hW j hj hji=>by
  by_cases e:x=a∧j=i
  ·obtain ⟨rfl,rfl⟩:=e
   exact ⟨hb,hv⟩
  ·exact h.cl x hx hS hW j hj fun ea=>by
    have:=hji ea
    have:j ≠ i:=fun ej=>e ⟨ea,ej⟩
    omega⟩

/-- At the end all is reached, and it is a homomorphism. -/
theorem Sprd.fin (G:Grp n f e) (K:Grp N g d) (hF:∀ i,i < F.length→F.getD i 0 < n) (hT:∀ i,i < F.length→T.getD i 0 < N) (hgen:∀ a,a < n→Gen n f e (fun x=>decide (x∈F)) a) {S:Nat→Bool} {ψ:Nat→Nat} (h:Sprd n f e N g d F T S ψ []) :
  (∀ a,a < n→S a=true)∧Ext n f N g F T ψ:=by
 have hall:∀ a,a < n→S a=true:=fun a ha=>Gen.least (H:=fun a=>S a=true) h.one.1 (fun a b hga hb hp hSa=>by
  have hp:b∈F:=by simpa using hp
  obtain ⟨i,hi,rfl⟩:=List.getElem_of_mem hp
  have e1:F[i]=F.getD i 0:=by simp [List.getD,List.getElem?_eq_getElem hi]
  rw [e1]
  exact (h.cl a (hga.lt G) hSa (by simp) i hi).1) (hgen a ha)
 have hmul:∀ a,a < n→∀ b,b < n→ψ (f a b)=g (ψ a) (ψ b):=fun a ha b hb=>by
  refine Gen.least (H:=fun b=>ψ (f a b)=g (ψ a) (ψ b)) ?_ (fun c x hgc hx hp ih=>?_) (hgen b hb)
  ·rw [G.one_r a ha,h.one.2,K.one_r _ (h.lt a ha (hall a ha))]
  ·have hp:x∈F:=by simpa using hp
   obtain ⟨i,hi,rfl⟩:=List.getElem_of_mem hp
   have e1:F[i]=F.getD i 0:=by simp [List.getD,List.getElem?_eq_getElem hi]
   rw [e1]
   have hc:=hgc.lt G
   have hac:=G.cl a c ha hc
   rw [← G.assoc a c _ ha hc (hF i hi),(h.cl _ hac (hall _ hac) (by simp) i hi).2,(h.cl c hc (hall c hc) (by simp) i hi).2,ih,K.assoc _ _ _ (h.lt a ha (hall a ha)) (h.lt c hc (hall c hc)) (hT i hi)]
 refine ⟨hall,⟨fun a ha=>h.lt a ha (hall a ha),fun a b ha hb=>hmul a ha b hb⟩,fun i hi=>?_⟩
 have h1:=(h.cl e G.el h.one.1 (by simp) i hi).2
 rw [G.one_l _ (hF i hi),h.one.2,K.one_l _ (hT i hi)] at h1
 exact h1
end
end Go.Proofs.YtboadfahlflmhaaDoor

/-
  How many bits are set: by sums of neighbours. Conditions: none.
-/
set_option linter.all false
namespace Go.Proofs.YtboadfahlflmhaaDoor
open Go.Pv

def p1 (M x:Nat):Nat:=(x / 2 &&& M) + (x &&& M)
def p2 (M x:Nat):Nat:=(x / 4 &&& M) + (x &&& M)
def cnt (k x:Nat):Nat:=((List.range k).filter x.testBit).length
theorem dv {a B q:Nat} (h:a < B):(a + B * q) / B=q:=by
 rw [Nat.add_mul_div_left _ _ (Nat.lt_of_le_of_lt (Nat.zero_le _) h),Nat.div_eq_of_lt h,Nat.zero_add]
theorem l3 {E0 E1 E2 E3:Nat} (h0:E0≤5000) (h1:E1≤5000) (h2:E2≤5000) (h3:E3≤5000) :
  let y4:=E0 + 65536 * (E1 + 65536 * (E2 + 65536 * E3))
  let y5:=y4 + y4 / 65536
  (y5 + y5 / 4294967296) % 128=(E0 + E1 + E2 + E3) % 128:=by
 intro y4 y5
 have a1:y4 / 65536=E1 + 65536 * (E2 + 65536 * E3):=dv (by omega)
 have a2:y5=((E0 + E1) + 65536 * (E1 + E2)) + 4294967296 * ((E2 + E3) + 65536 * E3):=by
  show y4 + y4 / 65536=_
  rw [a1]; show E0 + 65536 * (E1 + 65536 * (E2 + 65536 * E3)) + _=_
  omega
 have a3:y5 / 4294967296=(E2 + E3) + 65536 * E3:=by rw [a2]; exact dv (by omega)
 rw [a3,a2]
 omega
theorem l1 {d0 d1 d2 d3 d4 d5 d6 d7:Nat} : d0 + 256 * (d1 + 256 * (d2 + 256 * (d3 + 256 * (d4 + 256 * (d5 + 256 * (d6 + 256 * d7)))))) + (d1 + 256 * (d2 + 256 * (d3 + 256 * (d4 + 256 * (d5 + 256 * (d6 + 256 * d7)))))) =
  (d0 + d1 + 256 * (d1 + d2)) + 65536 * ((d2 + d3 + 256 * (d3 + d4)) + 65536 * ((d4 + d5 + 256 * (d5 + d6)) + 65536 * (d6 + d7 + 256 * d7))):=by
 omega

end Go.Proofs.YtboadfahlflmhaaDoor

/-
  How many bits are set; lists compared. Conditions: none.
-/
set_option linter.all false
namespace Go.Proofs.YtboadfahlflmhaaDoor
open Go.Pv

/-! ### Lists, compared -/

def cmpi (x y:Int):Int:=if x < y then -1 else if y < x then 1 else 0
def cmpL:List Int→List Int→Int
 | [],[]=>0
 | [],_ :: _=>-1
 | _ :: _,[]=>1
 | x :: v,y :: w=>if cmpi x y=0 then cmpL v w else cmpi x y
theorem isNaN_c (x:Int):FnC Tryd.prog 161 [.int .i64 x] (.bool false):=by
 refine fnc_of tab_ok Tryd.func161 rfl (by kernel_rfl) (by rw [Tryd.ntmps161]; exact Nat.le_add_left 1 _) ?_; rw [Tryd.ntmps161]
 refine qm ?_
 refine hk_region fun K hK=>runs_eval tab_ok ?_
 simp only [ev0,evA,evB,evP,fl,gp,tab,simprocAttr,reduceCtorEq,reduceIte]
 refine fin_run trivial (hK _ ?_)<;>clear hK<;>clear K
 refine qa (qm ?_)
 refine hk_region fun K hK=>runs_eval tab_ok ?_
 simp only [ev0,evA,evB,evP,fl,gp,tab,simprocAttr,reduceCtorEq,reduceIte]
 refine fin_run trivial (hK _ ?_)<;>clear hK<;>clear K
 refine qa (qk ?_)
 simp only [Tryd.results161,enA,ev0,evA,evB,evP,fl,gp,tab,simprocAttr,reduceCtorEq,reduceIte]
 all_goals ((first|exact rfl|exact ⟨rfl,rfl⟩|exact ⟨rfl,rfl,rfl⟩|exact ⟨trivial,rfl⟩|exact ⟨Nat.le_refl _,rfl⟩|trivial|(simp; done)))
theorem compare_c (x y:Int):FnC Tryd.prog 134 [.int .i64 x,.int .i64 y] (.int .i64 (cmpi x y)):=by
 refine fnc_of tab_ok Tryd.func134 rfl (by kernel_rfl) (by rw [Tryd.ntmps134]; exact Nat.le_add_left 2 _) ?_; rw [Tryd.ntmps134]
 refine qm ?_
 refine hk_region fun K hK=>runs_eval tab_ok ?_
 simp only [ev0,evA,evB,evP,fl,gp,tab,simprocAttr,reduceCtorEq,reduceIte]
 refine fin_run trivial (hK _ ?_)<;>clear hK<;>clear K
 refine qa (qm ?_)
 refine hk_region fun K hK=>runs_eval tab_ok ?_
 simp only [ev0,evA,evB,evP,fl,gp,tab,simprocAttr,reduceCtorEq,reduceIte]
 refine fin_stop trivial (runs_call (isNaN_c x) rfl rfl rfl (by simp only [dstOk,Nat.reduceLT]) (by repeat (first|exact trivial|constructor)) (runs_eval tab_ok ?_))
 simp only [ev0,evA,evB,evP,fl,gp,tab,simprocAttr,reduceCtorEq,reduceIte]
 refine fin_run trivial (hK _ ?_)<;>clear hK<;>clear K
 refine qa (qm ?_)
 refine hk_region fun K hK=>runs_eval tab_ok ?_
 simp only [ev0,evA,evB,evP,fl,gp,tab,simprocAttr,reduceCtorEq,reduceIte]
 refine fin_stop trivial (runs_call (isNaN_c y) rfl rfl rfl (by simp only [dstOk,Nat.reduceLT]) (by repeat (first|exact trivial|constructor)) (runs_eval tab_ok ?_))
 simp only [ev0,evA,evB,evP,fl,gp,tab,simprocAttr,reduceCtorEq,reduceIte]
 refine fin_run trivial (hK _ ?_)<;>clear hK<;>clear K
 refine qa (qm (qm ?_))
 refine hk_region fun K hK=>runs_eval tab_ok ?_
 simp only [ev0,evA,evB,evP,fl,gp,tab,simprocAttr,reduceCtorEq,reduceIte]
 refine fin_run trivial (hK _ ?_)<;>clear hK<;>clear K
 refine qa ?_
 refine hk_cond rfl (fun hC1=>?_) (fun hC1=>?_)
 ·cases hC1
 ·(try simp only [nhs] at hC1)
  refine qh (qa (qm (qm ?_)))
  refine hk_region fun K hK=>runs_eval tab_ok ?_
  simp only [ev0,evA,evB,evP,fl,gp,tab,simprocAttr,reduceCtorEq,reduceIte]
  refine fin_run trivial (hK _ ?_)<;>clear hK<;>clear K
  refine qa ?_
  refine hk_cond rfl (fun hC3=>?_) (fun hC3=>?_)
  ·cases hC3
  ·(try simp only [nhs] at hC3)
   refine qh (qa (qm (qm ?_)))
   refine hk_region fun K hK=>runs_eval tab_ok ?_
   simp only [ev0,evA,evB,evP,fl,gp,tab,simprocAttr,reduceCtorEq,reduceIte]
   refine fin_run trivial (hK _ ?_)<;>clear hK<;>clear K
   refine qa ?_
   refine hk_cond rfl (fun hC4=>?_) (fun hC4=>?_)
   ·(try simp only [nhs] at hC4)
    refine qm ?_
    refine hk_region fun K hK=>runs_eval tab_ok ?_
    simp only [ev0,evA,evB,evP,fl,gp,tab,simprocAttr,reduceCtorEq,reduceIte]
    refine fin_run trivial (hK _ ?_)<;>clear hK<;>clear K
    refine qa (qk (qb ?_))
    simp only [Tryd.results134,enA,ev0,evA,evB,evP,fl,gp,tab,simprocAttr,reduceCtorEq,reduceIte]
    all_goals (unfold cmpi; rw [if_pos hC4])
   ·(try simp only [nhs] at hC4)
    refine qh (qa (qm (qm ?_)))
    refine hk_region fun K hK=>runs_eval tab_ok ?_
    simp only [ev0,evA,evB,evP,fl,gp,tab,simprocAttr,reduceCtorEq,reduceIte]
    refine fin_run trivial (hK _ ?_)<;>clear hK<;>clear K
    refine qa ?_
    refine hk_cond rfl (fun hC5=>?_) (fun hC5=>?_)
    ·(try simp only [nhs] at hC5)
     refine qm ?_
     refine hk_region fun K hK=>runs_eval tab_ok ?_
     simp only [ev0,evA,evB,evP,fl,gp,tab,simprocAttr,reduceCtorEq,reduceIte]
     refine fin_run trivial (hK _ ?_)<;>clear hK<;>clear K
     refine qa (qk (qb ?_))
     simp only [Tryd.results134,enA,ev0,evA,evB,evP,fl,gp,tab,simprocAttr,reduceCtorEq,reduceIte]
     all_goals (unfold cmpi; rw [if_neg hC4,if_pos hC5])
    ·(try simp only [nhs] at hC5)
     refine qh (qa (qm ?_))
     refine hk_region fun K hK=>runs_eval tab_ok ?_
     simp only [ev0,evA,evB,evP,fl,gp,tab,simprocAttr,reduceCtorEq,reduceIte]
     refine fin_run trivial (hK _ ?_)<;>clear hK<;>clear K
     refine qa (qk ?_)
     simp only [Tryd.results134,enA,ev0,evA,evB,evP,fl,gp,tab,simprocAttr,reduceCtorEq,reduceIte]
     all_goals (unfold cmpi; rw [if_neg hC4,if_neg hC5])
theorem cmpL_drop {v w:List Int} : ∀ {i:Nat},(∀ j,j < i→j < v.length→j < w.length∧cmpi (v.getD j 0) (w.getD j 0)=0)→i≤v.length→cmpL v w=cmpL (v.drop i) (w.drop i)
 | 0,_,_=>rfl
 | i + 1,h,hi=>by
  cases v with
  | nil=>simp at hi
  | cons x v =>
   cases w with
   | nil=>have:=(h 0 (by omega) (by simp)).1; simp at this
   | cons y w =>
    have h0:=(h 0 (by omega) (by simp)).2
    simp at h0
    have ih:=cmpL_drop (v:=v) (w:=w) (i:=i) (fun j hj hjv=>by
     have:=h (j + 1) (by omega) (by simpa using hjv)
     simpa using this) (by simpa using hi)
    simp only [List.drop_succ_cons]
    rw [← ih]
    show (if cmpi x y=0 then cmpL v w else cmpi x y)=_
    rw [if_pos h0]
theorem drop_getD {v:List Int} {i:Nat} (h:i < v.length):v.drop i=v.getD i 0 :: v.drop (i + 1):=by
 rw [List.drop_eq_getElem_cons h]
 congr 1
 simp [List.getD,List.getElem?_eq_getElem h]
theorem compareL_c (v w:List Int) (hv:v.length≤1000000000) (hw:w.length≤1000000000):FnC Tryd.prog 82 [.list (il v),.list (il w)] (.int .i64 (cmpL v w)):=by
 refine fnc_of tab_ok Tryd.func82 rfl (by kernel_rfl) (by rw [Tryd.ntmps82]; exact Nat.le_add_left 2 _) ?_; rw [Tryd.ntmps82]
 refine qm ?_
 refine hk_region fun K hK=>runs_eval tab_ok ?_
 simp only [ev0,evA,evB,evP,fl,gp,tab,simprocAttr,reduceCtorEq,reduceIte]
 refine fin_run trivial (hK _ ?_)<;>clear hK<;>clear K
 refine qa (qm (qm ?_))
 refine hk_region fun K hK=>runs_eval tab_ok ?_
 simp only [ev0,evA,evB,evP,fl,gp,tab,simprocAttr,reduceCtorEq,reduceIte,il_length]
 refine fin_run trivial (hK _ ?_)<;>clear hK<;>clear K
 refine qa (ql ?_)
 refine hk_loop (ι:=Nat) (fun i=>⟨36,[(0,.p (.list (il v))),(1,.p (.list (il w))),(9,.p (.list (il v))),(10,.p (.int .i64 v.length)),(11,.p (.int .i64 i))],[]⟩) (fun i=>i≤v.length∧∀ j,j < i→j < v.length→j < w.length∧cmpi (v.getD j 0) (w.getD j 0)=0) (fun i=>v.length - i) 0 ⟨Nat.zero_le _,fun j hj=>by omega⟩ [] (by simp only [leq,leA,ev0,evA,evB,evP,fl,gp,tab,simprocAttr,reduceCtorEq,reduceIte]<;>trivial) fun i hi=>?_
 obtain ⟨hi1,hi2⟩:=hi
 have hd:=cmpL_drop hi2 hi1
 refine qm ?_
 refine hk_region fun K hK=>runs_eval tab_ok ?_
 simp only [ev0,evA,evB,evP,fl,gp,tab,simprocAttr,reduceCtorEq,reduceIte]
 refine fin_run trivial (hK _ ?_)<;>clear hK<;>clear K
 refine qa (qm ?_)
 refine hk_cond rfl (fun hC1=>?_) (fun hC1=>?_)
 ·(try simp only [nhs] at hC1)
  have hlt:i < v.length:=by omega
  have hdv:=drop_getD hlt
  refine qh (qa (qm (ql (qm ?_))))
  refine hk_region fun K hK=>runs_eval tab_ok ?_
  simp only [ev0,evA,evB,evP,fl,gp,tab,simprocAttr,reduceCtorEq,reduceIte,il_get hlt]
  refine fin_run ?_ (hK _ ?_)<;>clear hK<;>clear K
  ·(first|exact trivial|omega|(simp only [In64] at *; omega)|(simp [In64] at *; omega)|(simp_all; done)|skip)
  refine qa (qm (qm ?_))
  refine hk_region fun K hK=>runs_eval tab_ok ?_
  simp only [ev0,evA,evB,evP,fl,gp,tab,simprocAttr,reduceCtorEq,reduceIte,il_length]
  refine fin_run trivial (hK _ ?_)<;>clear hK<;>clear K
  refine qa ?_
  refine hk_cond rfl (fun hC2=>?_) (fun hC2=>?_)
  ·(try simp only [nhs] at hC2)
   refine qm ?_
   refine hk_region fun K hK=>runs_eval tab_ok ?_
   simp only [ev0,evA,evB,evP,fl,gp,tab,simprocAttr,reduceCtorEq,reduceIte]
   refine fin_run trivial (hK _ ?_)<;>clear hK<;>clear K
   refine qa (qk (qb (qe (qb (qb (qe (qb ?_)))))))
   simp only [Tryd.results82,enA,ev0,evA,evB,evP,fl,gp,tab,simprocAttr,reduceCtorEq,reduceIte]
   have hdw:w.drop i=[]:=List.drop_eq_nil_of_le (by omega)
   rw [hd,hdv,hdw]; rfl
  ·(try simp only [nhs] at hC2)
   have hlw:i < w.length:=by omega
   have hdw:=drop_getD hlw
   refine qh (qa (qm ?_))
   refine hk_region fun K hK=>runs_eval tab_ok ?_
   simp only [ev0,evA,evB,evP,fl,gp,tab,simprocAttr,reduceCtorEq,reduceIte,il_get hlw]
   refine fin_run ?_ (hK _ ?_)<;>clear hK<;>clear K
   ·(first|exact trivial|omega|(simp only [In64] at *; omega)|(simp [In64] at *; omega)|(simp_all; done)|skip)
   refine qa (qm ?_)
   refine hk_region fun K hK=>runs_eval tab_ok ?_
   simp only [ev0,evA,evB,evP,fl,gp,tab,simprocAttr,reduceCtorEq,reduceIte]
   refine fin_stop trivial (runs_call (compare_c (v.getD i 0) (w.getD i 0)) rfl rfl rfl (by simp only [dstOk,Nat.reduceLT]) (by repeat (first|exact trivial|constructor)) (runs_eval tab_ok ?_))
   simp only [ev0,evA,evB,evP,fl,gp,tab,simprocAttr,reduceCtorEq,reduceIte]
   refine fin_run trivial (hK _ ?_)<;>clear hK<;>clear K
   refine qa (qm ?_)
   refine hk_region fun K hK=>runs_eval tab_ok ?_
   simp only [ev0,evA,evB,evP,fl,gp,tab,simprocAttr,reduceCtorEq,reduceIte]
   refine fin_run trivial (hK _ ?_)<;>clear hK<;>clear K
   refine qa ?_
   refine hk_cond rfl (fun hC3=>?_) (fun hC3=>?_)
   ·(try simp only [nhs] at hC3)
    refine qm ?_
    refine hk_region fun K hK=>runs_eval tab_ok ?_
    simp only [ev0,evA,evB,evP,fl,gp,tab,simprocAttr,reduceCtorEq,reduceIte]
    refine fin_run trivial (hK _ ?_)<;>clear hK<;>clear K
    refine qa (qk (qe (qb (qb (qe (qb ?_))))))
    simp only [Tryd.results82,enA,ev0,evA,evB,evP,fl,gp,tab,simprocAttr,reduceCtorEq,reduceIte]
    rw [hd,hdv,hdw]
    show _=if _ then _ else _
    rw [if_neg hC3]
   ·(try simp only [nhs] at hC3)
    refine qh (qd (qa ?_))
    refine hk_region fun K hK=>runs_eval tab_ok ?_
    simp only [ev0,evA,evB,evP,fl,gp,tab,simprocAttr,reduceCtorEq,reduceIte]
    refine fin_run ?_ (hK _ ?_)<;>clear hK<;>clear K
    ·(first|exact trivial|omega|(simp only [In64] at *; omega)|(simp [In64] at *; omega)|(simp_all; done)|skip)
    refine qa ?_
    refine ⟨i + 1,[],⟨by omega,fun j hj hjv=>?_⟩,by omega,?_⟩
    ·by_cases hji:j=i
     ·rw [hji]; exact ⟨hlw,by simpa using hC3⟩
     ·exact hi2 j (by omega) hjv
    ·simp only [leq,leA,ev0,evA,evB,evP,fl,gp,tab,simprocAttr,reduceCtorEq,reduceIte]<;>omega
 ·(try simp only [nhs] at hC1)
  have hin:i=v.length:=by omega
  have hdv:v.drop i=[]:=List.drop_eq_nil_of_le (by omega)
  refine qj (qc (qc (qf (qa (qm (qm ?_))))))
  refine hk_region fun K hK=>runs_eval tab_ok ?_
  simp only [ev0,evA,evB,evP,fl,gp,tab,simprocAttr,reduceCtorEq,reduceIte,il_length]
  refine fin_run trivial (hK _ ?_)<;>clear hK<;>clear K
  refine qa ?_
  refine hk_cond rfl (fun hC4=>?_) (fun hC4=>?_)
  ·(try simp only [nhs] at hC4)
   refine qm ?_
   refine hk_region fun K hK=>runs_eval tab_ok ?_
   simp only [ev0,evA,evB,evP,fl,gp,tab,simprocAttr,reduceCtorEq,reduceIte]
   refine fin_run trivial (hK _ ?_)<;>clear hK<;>clear K
   refine qa (qk (qb ?_))
   simp only [Tryd.results82,enA,ev0,evA,evB,evP,fl,gp,tab,simprocAttr,reduceCtorEq,reduceIte]
   all_goals (rw [hd,hdv,drop_getD (v:=w) (i:=i) (by omega)]; rfl)
  ·(try simp only [nhs] at hC4)
   refine qh (qa (qm ?_))
   refine hk_region fun K hK=>runs_eval tab_ok ?_
   simp only [ev0,evA,evB,evP,fl,gp,tab,simprocAttr,reduceCtorEq,reduceIte]
   refine fin_run trivial (hK _ ?_)<;>clear hK<;>clear K
   refine qa (qk ?_)
   simp only [Tryd.results82,enA,ev0,evA,evB,evP,fl,gp,tab,simprocAttr,reduceCtorEq,reduceIte]
   have hdw:w.drop i=[]:=by
    refine List.drop_eq_nil_of_le ?_
    omega
   rw [hd,hdv,hdw]; rfl

/-! ### An order -/

theorem cmpi_lt {x y:Int} : cmpi x y < 0↔x < y:=by
 unfold cmpi
 by_cases h1:x < y
 ·simp [h1]
 ·by_cases h2:y < x<;>simp [h1,h2]
theorem cmpi_eq {x y:Int} : cmpi x y=0↔x=y:=by
 unfold cmpi
 by_cases h1:x < y
 ·simp [h1]; omega
 ·by_cases h2:y < x
  ·simp [h1,h2]; omega
  ·simp [h1,h2]; omega
theorem cmpL_self:∀ v:List Int,cmpL v v=0
 | []=>rfl
 | x :: v=>by show (if cmpi x x=0 then cmpL v v else cmpi x x)=0; rw [if_pos (cmpi_eq.2 rfl)]; exact cmpL_self v
theorem cmpL_cons_lt {x y:Int} {v w:List Int} : cmpL (x :: v) (y :: w) < 0↔x < y∨x=y∧cmpL v w < 0:=by
 show (if cmpi x y=0 then cmpL v w else cmpi x y) < 0↔_
 by_cases h:cmpi x y=0
 ·rw [if_pos h]
  have:=cmpi_eq.1 h
  constructor
  ·exact fun h2=>.inr ⟨this,h2⟩
  ·rintro (h2 | h2)
   ·omega
   ·exact h2.2
 ·rw [if_neg h,cmpi_lt]
  have:¬ x=y:=fun e=>h (cmpi_eq.2 e)
  constructor
  ·exact fun h2=>.inl h2
  ·rintro (h2 | h2)
   ·exact h2
   ·exact absurd h2.1 this
theorem cmpL_tot:∀ v w:List Int,¬ cmpL v w < 0→¬ cmpL w v < 0→v=w
 | [],[],_,_=>rfl
 | [],_ :: _,h,_=>absurd (show (-1:Int) < 0 by omega) h
 | _ :: _,[],_,h=>absurd (show (-1:Int) < 0 by omega) h
 | x :: v,y :: w,h1,h2=>by
  rw [cmpL_cons_lt] at h1 h2
  have hxy:x=y:=by omega
  subst hxy
  rw [cmpL_tot v w (fun h=>h1 (.inr ⟨rfl,h⟩)) (fun h=>h2 (.inr ⟨rfl,h⟩))]
theorem cmpL_trans:∀ u v w:List Int,cmpL u v < 0→cmpL v w < 0→cmpL u w < 0
 | [],[],_,h,_=>absurd h (by simp [cmpL])
 | [],_ :: _,[],_,h=>absurd h (by simp [cmpL])
 | [],_ :: _,_ :: _,_,_=>by simp [cmpL]
 | _ :: _,[],_,h,_=>absurd h (by simp [cmpL])
 | _ :: _,_ :: _,[],_,h=>absurd h (by simp [cmpL])
 | x :: u,y :: v,z :: w,h1,h2=>by
  rw [cmpL_cons_lt] at h1 h2 ⊢
  rcases h1 with h1 | ⟨rfl,h1⟩
  ·rcases h2 with h2 | ⟨rfl,h2⟩
   ·exact .inl (by omega)
   ·exact .inl h1
  ·rcases h2 with h2 | ⟨rfl,h2⟩
   ·exact .inl h2
   ·exact .inr ⟨rfl,cmpL_trans u v w h1 h2⟩
theorem cmpL_ntrans (u v w:List Int) (h1:¬ cmpL u v < 0) (h2:¬ cmpL v w < 0):¬ cmpL u w < 0:=fun h=>by
 by_cases h3:cmpL v u < 0
 ·exact h2 (cmpL_trans _ _ _ h3 h)
 ·rw [cmpL_tot _ _ h1 h3] at h; exact h2 h

/-- Sets: by how many, then by lists. -/
def cmpS (a b:List Int):Int:=if (a.length:Int) - (b.length:Int)=0 then cmpL a b else (a.length:Int) - (b.length:Int)
theorem cmpS_lt {a b:List Int} : cmpS a b < 0↔a.length < b.length∨a.length=b.length∧cmpL a b < 0:=by
 unfold cmpS
 by_cases h:(a.length:Int) - (b.length:Int)=0
 ·rw [if_pos h]; constructor
  ·exact fun h2=>.inr ⟨by omega,h2⟩
  ·rintro (h2 | h2)
   ·omega
   ·exact h2.2
 ·rw [if_neg h]; omega
theorem cmpS_self (v:List Int):¬ cmpS v v < 0:=by
 rw [cmpS_lt,cmpL_self]; omega
end Go.Proofs.YtboadfahlflmhaaDoor

/-
  All subgroups of a group, in their order. Conditions: none.
-/
set_option linter.all false
namespace Go.Proofs.YtboadfahlflmhaaDoor
open Go.Pv

def wta (p:Nat→Bool) (a x:Nat):Bool:=p x || decide (x=a)
section
variable {n e:Nat} {f:Nat→Nat→Nat}

/-- With one thing more, what is made is there. -/
def Dn (n:Nat) (f:Nat→Nat→Nat) (e x a:Nat) (L:List Nat):Prop:=∀ q:Nat→Bool,(∀ y,y < n→(q y=true↔Gen n f e (wta x.testBit a) y))→bo n q∈L
theorem Dn.mono {x a:Nat} {L L' : List Nat} (h:Dn n f e x a L) (hs:∀ y∈L,y∈L'):Dn n f e x a L':=fun q hq=>hs _ (h q hq)

/-- All subgroups; each once. -/
structure AllI (n:Nat) (f:Nat→Nat→Nat) (e:Nat) (L:List Nat):Prop where
 nodup:L.Nodup
 subs:∀ x∈L,∃ p,Sub n f e p∧x=bo n p
 one:bo n (onp e)∈L
theorem AllI.lt {L:List Nat} (h:AllI n f e L):∀ x∈L,x < 2 ^ n:=fun x hx=>by
 obtain ⟨p,_,rfl⟩:=h.subs x hx
 exact bo_lt n p
theorem AllI.len {L:List Nat} (h:AllI n f e L):L.length≤2 ^ n:=nodup_lt h.nodup h.lt
theorem AllI.all {L:List Nat} (G:Grp n f e) (h:AllI n f e L) (hd:∀ x∈L,∀ a,a < n→Dn n f e x a L):∀ p,Sub n f e p→bo n p∈L:=by
 intro q hq
 
 have go:∀ c (p:Nat→Bool),Sub n f e p→bo n p∈L→(∀ y,y < n→p y=true→q y=true)→(mem n q).length - (mem n p).length≤c→bo n q∈L:=by
  intro c
  induction c with
  | zero =>
   intro p hp hL hle hc
   have hall:∀ y,y < n→q y=p y:=by
    refine Classical.byContradiction fun hh=>?_
    have:=mem_lt (p:=q) (q:=p) hle (fun h2=>hh fun y hy=>(h2 y hy).symm)
    omega
   rw [bo_congr hall]; exact hL
  | succ c ih =>
   intro p hp hL hle hc
   by_cases hall:∀ y,y < n→q y=p y
   ·rw [bo_congr hall]; exact hL
   ·have hex:∃ a,a < n∧q a=true∧p a=false:=by
     refine Classical.byContradiction fun hh=>hall fun y hy=>?_
     cases hpy:p y with
     | true=>exact hle y hy hpy
     | false =>
      cases hqy:q y with
      | false=>rfl
      | true=>exact absurd ⟨y,hy,hqy,hpy⟩ hh
    obtain ⟨a,ha,qa,pa⟩:=hex
    obtain ⟨r,hr⟩:=gen_ex n f e (wta (bo n p).testBit a)
    have hrL:=hd _ hL a ha r hr
    have hin:∀ b,b < n→wta (bo n p).testBit a b=true→q b=true:=fun b hb hw=>by
     unfold wta at hw
     rw [bo_bit,Bool.or_eq_true,Bool.and_eq_true,decide_eq_true_eq,decide_eq_true_eq] at hw
     rcases hw with hw | hw
     ·exact hle b hb hw.2
     ·rw [hw]; exact qa
    have hrq:∀ y,y < n→r y=true→q y=true:=fun y hy h1=>((hr y hy).1 h1).sub G hq hin
    have hpr:∀ y,y < n→p y=true→r y=true:=fun y hy h1=>(hr y hy).2 (Gen.mem G hy (by unfold wta; rw [bo_bit]; simp [hy,h1]))
    have hra:r a=true:=(hr a ha).2 (Gen.mem G ha (by unfold wta; simp))
    have hlt:=mem_lt (p:=r) (q:=p) hpr (fun h2=>by have:=h2 a ha; rw [pa,hra] at this; cases this)
    exact ih r (gen_sub G hr) hrL hrq (by omega)
 exact go _ (onp e) G.onp_sub h.one (fun y hy h1=>by rw [onp_iff] at h1; rw [h1]; exact hq.one) (Nat.le_refl _)

/-- .. in their order. -/
structure AllS (n:Nat) (f:Nat→Nat→Nat) (e:Nat) (L:List Nat):Prop where
 subs:∀ x∈L,∃ p,Sub n f e p∧x=bo n p
 all:∀ p,Sub n f e p→bo n p∈L
 rise:L.Pairwise fun x y=>cmpS (stl x) (stl y) < 0
theorem AllS.nodup {L:List Nat} (h:AllS n f e L):L.Nodup:=h.rise.imp fun {x y} hxy he=>by
 subst he; exact cmpS_self _ hxy
theorem AllS.perm {L M:List Nat} (G:Grp n f e) (h:AllS n f e L) (hi:AllI n f e M) (hd:∀ x∈M,∀ a,a < n→Dn n f e x a M):M.Perm L:=by
 refine (List.perm_ext_iff_of_nodup hi.nodup h.nodup).2 fun x=>⟨fun hx=>?_,fun hx=>?_⟩
 ·obtain ⟨p,hp,rfl⟩:=hi.subs x hx; exact h.all p hp
 ·obtain ⟨p,hp,rfl⟩:=h.subs x hx; exact hi.all G hd p hp
end
end Go.Proofs.YtboadfahlflmhaaDoor

/-
  Walks: maps of groups: the fault of a map. Conditions: none.
-/
set_option linter.all false
namespace Go.Proofs.YtboadfahlflmhaaDoor
open Go.Pv

/-- The fault of two groups. -/
def tg (N:Int) (m:List Int) (N' : Int) (m' : List Int):Int × Int:=if (gf N m).1=0 then gf N' m' else gf N m

theorem tg_zero {N N' : Int} {m m' : List Int} (h:(tg N m N' m').1=0):(gf N m).1=0∧(gf N' m').1=0:=by
 unfold tg at h
 by_cases h1:(gf N m).1=0
 ·rw [if_pos h1] at h; exact ⟨h1,h⟩
 ·rw [if_neg h1] at h; exact absurd h h1

theorem twoGroups_c (N:Int) (m:List Int) (N' : Int) (m' : List Int) (hm:m.length≤1000000000000000) (hm' : m'.length≤1000000000000000):FnC Tryd.prog 30 [gp N m,gp N' m'] (fl (tg N m N' m')):=by
 refine fnc_of tab_ok Tryd.func30 rfl (by kernel_rfl) (by rw [Tryd.ntmps30]; exact Nat.le_add_left 2 _) ?_; rw [Tryd.ntmps30]
 refine qm ?_
 refine hk_region fun K hK=>runs_eval tab_ok ?_
 simp only [ev0,evA,evB,evP,fl,gp,tab,simprocAttr,reduceCtorEq,reduceIte]
 refine fin_run ?_ (hK _ ?_)<;>clear hK<;>clear K
 ·(first|exact trivial|omega|(simp only [In64] at *; omega)|(simp [In64] at *; omega)|(simp_all; done)|skip)
 refine qa (qm ?_)
 refine hk_region fun K hK=>runs_eval tab_ok ?_
 simp only [ev0,evA,evB,evP,fl,gp,tab,simprocAttr,reduceCtorEq,reduceIte]
 refine fin_stop trivial (runs_call (gf_c N m hm) rfl rfl rfl (by simp only [dstOk,Nat.reduceLT]) (by repeat (first|exact trivial|constructor)) (runs_eval tab_ok ?_))
 simp only [ev0,evA,evB,evP,fl,gp,tab,simprocAttr,reduceCtorEq,reduceIte]
 refine fin_run ?_ (hK _ ?_)<;>clear hK<;>clear K
 ·(first|exact trivial|omega|(simp only [In64] at *; omega)|(simp [In64] at *; omega)|(simp_all; done)|skip)
 refine qa (qm (qm ?_))
 refine hk_region fun K hK=>runs_eval tab_ok ?_
 simp only [ev0,evA,evB,evP,fl,gp,tab,simprocAttr,reduceCtorEq,reduceIte]
 refine fin_run ?_ (hK _ ?_)<;>clear hK<;>clear K
 ·(first|exact trivial|omega|(simp only [In64] at *; omega)|(simp [In64] at *; omega)|(simp_all; done)|skip)
 refine qa ?_
 refine hk_cond rfl (fun hC1=>?_) (fun hC1=>?_)
 ·(try simp only [nhs] at hC1)
  refine hk_region fun K hK=>runs_eval tab_ok ?_
  simp only [ev0,evA,evB,evP,fl,gp,tab,simprocAttr,reduceCtorEq,reduceIte]
  refine fin_stop trivial (runs_call (gf_c N' m' hm') rfl rfl rfl (by simp only [dstOk,Nat.reduceLT]) (by repeat (first|exact trivial|constructor)) (runs_eval tab_ok ?_))
  simp only [ev0,evA,evB,evP,fl,gp,tab,simprocAttr,reduceCtorEq,reduceIte]
  refine fin_run ?_ (hK _ ?_)<;>clear hK<;>clear K
  ·(first|exact trivial|omega|(simp only [In64] at *; omega)|(simp [In64] at *; omega)|(simp_all; done)|skip)
  refine qa (qm ?_)
  refine hk_region fun K hK=>runs_eval tab_ok ?_
  simp only [ev0,evA,evB,evP,fl,gp,tab,simprocAttr,reduceCtorEq,reduceIte]
  refine fin_run ?_ (hK _ ?_)<;>clear hK<;>clear K
  ·(first|exact trivial|omega|(simp only [In64] at *; omega)|(simp [In64] at *; omega)|(simp_all; done)|skip)
  refine qa (qk ?_)
  simp only [Tryd.results30,enA,ev0,evA,evB,evP,fl,gp,tab,simprocAttr,reduceCtorEq,reduceIte]
  all_goals (unfold tg; rw [if_pos hC1]; simp)
 ·(try simp only [nhs] at hC1)
  refine qh (qa (qm ?_))
  refine hk_region fun K hK=>runs_eval tab_ok ?_
  simp only [ev0,evA,evB,evP,fl,gp,tab,simprocAttr,reduceCtorEq,reduceIte]
  refine fin_run ?_ (hK _ ?_)<;>clear hK<;>clear K
  ·(first|exact trivial|omega|(simp only [In64] at *; omega)|(simp [In64] at *; omega)|(simp_all; done)|skip)
  refine qa (qk ?_)
  simp only [Tryd.results30,enA,ev0,evA,evB,evP,fl,gp,tab,simprocAttr,reduceCtorEq,reduceIte]
  all_goals (unfold tg; rw [if_neg hC1]; simp)

theorem homBoth_c (N:Int) (m:List Int) (N' : Int) (m' : List Int) (hm:m.length≤1000000000000000) (hm' : m'.length≤1000000000000000):FnC Tryd.prog 92 [gp N m,gp N' m'] (fl (tg N m N' m')):=by
 refine fnc_of tab_ok Tryd.func92 rfl (by kernel_rfl) (by rw [Tryd.ntmps92]; exact Nat.le_add_left 2 _) ?_; rw [Tryd.ntmps92]
 refine qm ?_
 refine hk_region fun K hK=>runs_eval tab_ok ?_
 simp only [ev0,evA,evB,evP,fl,gp,tab,simprocAttr,reduceCtorEq,reduceIte]
 refine fin_run ?_ (hK _ ?_)<;>clear hK<;>clear K
 ·(first|exact trivial|omega|(simp only [In64] at *; omega)|(simp [In64] at *; omega)|(simp_all; done)|skip)
 refine qa (qm (qm ?_))
 refine hk_region fun K hK=>runs_eval tab_ok ?_
 simp only [ev0,evA,evB,evP,fl,gp,tab,simprocAttr,reduceCtorEq,reduceIte]
 refine fin_stop trivial (runs_call (check_c N m hm) rfl rfl rfl (by simp only [dstOk,Nat.reduceLT]) (by repeat (first|exact trivial|constructor)) (runs_eval tab_ok ?_))
 simp only [ev0,evA,evB,evP,fl,gp,tab,simprocAttr,reduceCtorEq,reduceIte]
 refine fin_run ?_ (hK _ ?_)<;>clear hK<;>clear K
 ·(first|exact trivial|omega|(simp only [In64] at *; omega)|(simp [In64] at *; omega)|(simp_all; done)|skip)
 refine qa (qm ?_)
 refine hk_region fun K hK=>runs_eval tab_ok ?_
 simp only [ev0,evA,evB,evP,fl,gp,tab,simprocAttr,reduceCtorEq,reduceIte]
 refine fin_run ?_ (hK _ ?_)<;>clear hK<;>clear K
 ·(first|exact trivial|omega|(simp only [In64] at *; omega)|(simp [In64] at *; omega)|(simp_all; done)|skip)
 refine qa ?_
 refine hk_cond rfl (fun hC1=>?_) (fun hC1=>?_)
 ·(try simp only [nhs] at hC1)
  refine qm ?_
  refine hk_region fun K hK=>runs_eval tab_ok ?_
  simp only [ev0,evA,evB,evP,fl,gp,tab,simprocAttr,reduceCtorEq,reduceIte]
  refine fin_run ?_ (hK _ ?_)<;>clear hK<;>clear K
  ·(first|exact trivial|omega|(simp only [In64] at *; omega)|(simp [In64] at *; omega)|(simp_all; done)|skip)
  refine qa (qk (qb ?_))
  simp only [Tryd.results92,enA,ev0,evA,evB,evP,fl,gp,tab,simprocAttr,reduceCtorEq,reduceIte]
  all_goals (unfold tg; rw [if_neg hC1]; simp)
 ·(try simp only [nhs] at hC1)
  refine qh (qa (qm ?_))
  refine hk_region fun K hK=>runs_eval tab_ok ?_
  simp only [ev0,evA,evB,evP,fl,gp,tab,simprocAttr,reduceCtorEq,reduceIte]
  refine fin_stop trivial (runs_call (check_c N' m' hm') rfl rfl rfl (by simp only [dstOk,Nat.reduceLT]) (by repeat (first|exact trivial|constructor)) (runs_eval tab_ok ?_))
  simp only [ev0,evA,evB,evP,fl,gp,tab,simprocAttr,reduceCtorEq,reduceIte]
  refine fin_run ?_ (hK _ ?_)<;>clear hK<;>clear K
  ·(first|exact trivial|omega|(simp only [In64] at *; omega)|(simp [In64] at *; omega)|(simp_all; done)|skip)
  refine qa (qk ?_)
  simp only [Tryd.results92,enA,ev0,evA,evB,evP,fl,gp,tab,simprocAttr,reduceCtorEq,reduceIte]
  all_goals (unfold tg; rw [if_pos hC1]; simp)

theorem homFlt_c (c a:Int):FnC Tryd.prog 77 [.int .i64 c,.int .i64 a] (fl (c,a)):=by
 refine fnc_of tab_ok Tryd.func77 rfl (by kernel_rfl) (by rw [Tryd.ntmps77]; exact Nat.le_add_left 2 _) ?_; rw [Tryd.ntmps77]
 refine qm ?_
 refine hk_region fun K hK=>runs_eval tab_ok ?_
 simp only [ev0,evA,evB,evP,fl,gp,tab,simprocAttr,reduceCtorEq,reduceIte]
 refine fin_run ?_ (hK _ ?_)<;>clear hK<;>clear K
 ·(first|exact trivial|omega|(simp only [In64] at *; omega)|(simp [In64] at *; omega)|(simp_all; done)|skip)
 refine qa (qm ?_)
 refine hk_region fun K hK=>runs_eval tab_ok ?_
 simp only [ev0,evA,evB,evP,fl,gp,tab,simprocAttr,reduceCtorEq,reduceIte]
 refine fin_run ?_ (hK _ ?_)<;>clear hK<;>clear K
 ·(first|exact trivial|omega|(simp only [In64] at *; omega)|(simp [In64] at *; omega)|(simp_all; done)|skip)
 refine qa (qk ?_)
 simp only [Tryd.results77,enA,ev0,evA,evB,evP,fl,gp,tab,simprocAttr,reduceCtorEq,reduceIte]
 all_goals (rfl)

/-- The value of a map. -/
def hv (l:List Int) (a:Nat):Nat:=(l.getD a 0).toNat
def hgood (m m' l:List Int) (n n' a:Nat):Prop:=∀ b,b < n→op m' n' (hv l a) (hv l b)=hv l (op m n a b)
instance (m m' l:List Int) (n n' a:Nat):Decidable (hgood m m' l n n' a):=by unfold hgood; infer_instance
def homf2 (m m' l:List Int) (n n' : Nat):Int × Int:=
 match fst' (fun a=>decide (¬ hgood m m' l n n' a)) n with
 | some a=>(7,(a:Int))
 | none=>(0,0)
/-- THE FAULT of a map of groups. -/
def homf (N:Int) (m:List Int) (N' : Int) (m' l:List Int):Int × Int:=
 if ¬ (tg N m N' m').1=0 then tg N m N' m'
 else if ¬ (l.length:Int)=N then (8,0)
 else match fst' (bad N' l) l.length with
  | some i=>(3,(i:Int))
  | none=>homf2 m m' l N.toNat N'.toNat

theorem homf_tg {N N' : Int} {m m' l:List Int} (h:¬ (tg N m N' m').1=0):homf N m N' m' l=tg N m N' m':=by unfold homf; rw [if_pos h]
theorem homf_8 {N N' : Int} {m m' l:List Int} (h:(tg N m N' m').1=0) (h2:¬ (l.length:Int)=N):homf N m N' m' l=(8,0):=by unfold homf; rw [if_neg (by simpa using h),if_pos h2]
theorem homf_3 {N N' : Int} {m m' l:List Int} (h:(tg N m N' m').1=0) (h2:(l.length:Int)=N) {i:Nat} (hi:i < l.length) (hb:bad N' l i=true) (hj:∀ j,j < i→bad N' l j=false):homf N m N' m' l=(3,(i:Int)):=by
 unfold homf; rw [if_neg (by simpa using h),if_neg (by simpa using h2),fst_some hi hb hj]
theorem homf_2 {n n' : Nat} {m m' l:List Int} (h:(tg n m n' m').1=0) (h2:(l.length:Int)=n) (hj:∀ j,j < l.length→bad n' l j=false):homf n m n' m' l=homf2 m m' l n n':=by
 unfold homf; rw [if_neg (by simpa using h),if_neg (by simpa using h2),fst_none hj]
 rfl
theorem homf2_7 {n n' : Nat} {m m' l:List Int} {a:Nat} (ha:a < n) (hn:¬ hgood m m' l n n' a) (hj:∀ j,j < a→hgood m m' l n n' j):homf2 m m' l n n' = (7,(a:Int)):=by
 have:fst' (fun a=>decide (¬ hgood m m' l n n' a)) n=some a:=fst_some ha (decide_eq_true hn) fun j h=>decide_eq_false fun h'=>h' (hj j h)
 unfold homf2; rw [this]
theorem homf2_0 {n n' : Nat} {m m' l:List Int} (hj:∀ j,j < n→hgood m m' l n n' j):homf2 m m' l n n' = (0,0):=by
 have:fst' (fun a=>decide (¬ hgood m m' l n n' a)) n=none:=fst_none fun j h=>decide_eq_false fun h'=>h' (hj j h)
 unfold homf2; rw [this]
theorem hv_at {n' : Nat} {l:List Int} {a:Nat} (h:bad n' l a=false):l.getD a 0=((hv l a:Nat):Int)∧hv l a < n':=by
 have:=of_decide_eq_false h
 unfold hv
 omega

/-- A map of groups. -/
def Hom (m m' l:List Int) (n n' : Nat):Prop:=l.length=n∧(∀ a,a < n→l.getD a 0=((hv l a:Nat):Int)∧hv l a < n')∧∀ a,a < n→hgood m m' l n n' a
set_option maxHeartbeats 2000000 in
theorem homFault_c (N:Int) (m:List Int) (N' : Int) (m' l:List Int) (hm:m.length≤1000000000000000) (hm' : m'.length≤1000000000000000):FnC Tryd.prog 25 [gp N m,gp N' m',.list (il l)] (fl (homf N m N' m' l)):=by
 refine fnc_of tab_ok Tryd.func25 rfl (by kernel_rfl) (by rw [Tryd.ntmps25]; exact Nat.le_add_left 3 _) ?_; rw [Tryd.ntmps25]
 refine qm ?_
 refine hk_region fun K hK=>runs_eval tab_ok ?_
 simp only [ev0,evA,evB,evP,fl,gp,tab,simprocAttr,reduceCtorEq,reduceIte]
 refine fin_run ?_ (hK _ ?_)<;>clear hK<;>clear K
 ·(first|exact trivial|omega|(simp only [In64] at *; omega)|(simp [In64] at *; omega)|(simp_all; done)|skip)
 refine qa (qm ?_)
 refine hk_region fun K hK=>runs_eval tab_ok ?_
 simp only [ev0,evA,evB,evP,fl,gp,tab,simprocAttr,reduceCtorEq,reduceIte]
 refine fin_stop trivial (runs_call (twoGroups_c N m N' m' hm hm') rfl rfl rfl (by simp only [dstOk,Nat.reduceLT]) (by repeat (first|exact trivial|constructor)) (runs_eval tab_ok ?_))
 simp only [ev0,evA,evB,evP,fl,gp,tab,simprocAttr,reduceCtorEq,reduceIte]
 refine fin_run ?_ (hK _ ?_)<;>clear hK<;>clear K
 ·(first|exact trivial|omega|(simp only [In64] at *; omega)|(simp [In64] at *; omega)|(simp_all; done)|skip)
 refine qa (qm (qm ?_))
 refine hk_region fun K hK=>runs_eval tab_ok ?_
 simp only [ev0,evA,evB,evP,fl,gp,tab,simprocAttr,reduceCtorEq,reduceIte]
 refine fin_run ?_ (hK _ ?_)<;>clear hK<;>clear K
 ·(first|exact trivial|omega|(simp only [In64] at *; omega)|(simp [In64] at *; omega)|(simp_all; done)|skip)
 refine qa ?_
 refine hk_cond rfl (fun hC1=>?_) (fun hC1=>?_)
 ·(try simp only [nhs] at hC1)
  refine qm ?_
  refine hk_region fun K hK=>runs_eval tab_ok ?_
  simp only [ev0,evA,evB,evP,fl,gp,tab,simprocAttr,reduceCtorEq,reduceIte]
  refine fin_run ?_ (hK _ ?_)<;>clear hK<;>clear K
  ·(first|exact trivial|omega|(simp only [In64] at *; omega)|(simp [In64] at *; omega)|(simp_all; done)|skip)
  refine qa (qk (qb ?_))
  simp only [Tryd.results25,enA,ev0,evA,evB,evP,fl,gp,tab,simprocAttr,reduceCtorEq,reduceIte]
  all_goals (rw [homf_tg hC1]; simp)
 ·(try simp only [nhs] at hC1)
  obtain ⟨z1,z2⟩:=tg_zero hC1
  obtain ⟨n,e,g,_⟩:=gf_ok z1
  obtain ⟨n',e',g',_⟩:=gf_ok z2
  obtain rfl:=g.1
  obtain rfl:=g'.1
  have T:=g.2.1
  have T':=g'.2.1
  have hb:=T.big
  refine qh (qa (qm (qm ?_)))
  refine hk_region fun K hK=>runs_eval tab_ok ?_
  simp only [ev0,evA,evB,evP,fl,gp,tab,simprocAttr,reduceCtorEq,reduceIte]
  refine fin_run ?_ (hK _ ?_)<;>clear hK<;>clear K
  ·(first|exact trivial|omega|(simp only [In64] at *; omega)|(simp [In64] at *; omega)|(simp_all; done)|skip)
  refine qa ?_
  refine hk_cond rfl (fun hC2=>?_) (fun hC2=>?_)
  ·(try simp only [nhs] at hC2)
   refine qm ?_
   refine hk_region fun K hK=>runs_eval tab_ok ?_
   simp only [ev0,evA,evB,evP,fl,gp,tab,simprocAttr,reduceCtorEq,reduceIte]
   refine fin_stop trivial (runs_call (f_c 8 0) rfl rfl rfl (by simp only [dstOk,Nat.reduceLT]) (by repeat (first|exact trivial|constructor)) (runs_eval tab_ok ?_))
   simp only [ev0,evA,evB,evP,fl,gp,tab,simprocAttr,reduceCtorEq,reduceIte]
   refine fin_run ?_ (hK _ ?_)<;>clear hK<;>clear K
   ·(first|exact trivial|omega|(simp only [In64] at *; omega)|(simp [In64] at *; omega)|(simp_all; done)|skip)
   refine qa (qk (qb ?_))
   simp only [Tryd.results25,enA,ev0,evA,evB,evP,fl,gp,tab,simprocAttr,reduceCtorEq,reduceIte]
   all_goals (rw [homf_8 hC1 hC2]; simp)
  ·(try simp only [nhs] at hC2)
   refine qh (qa (qm (qm ?_)))
   refine hk_region fun K hK=>runs_eval tab_ok ?_
   simp only [ev0,evA,evB,evP,fl,gp,tab,simprocAttr,reduceCtorEq,reduceIte]
   refine fin_run trivial (hK _ ?_)<;>clear hK<;>clear K
   refine qa (ql ?_)
   refine hk_loop (ι:=Nat) (fun i=>⟨79,[(2,.p (.list (il l))),(3,.ptr 0 0),(4,.ptr 1 0),(6,.ptr 2 0),(8,.p (.int .i64 i))],[.own [.p (.int .i64 n),.p (.list (il m))],.own [.p (.int .i64 n'),.p (.list (il m'))],.own [.p (.int .i64 0),.p (.int .i64 0)]]⟩) (fun i=>i≤l.length∧∀ j,j < i→bad n' l j=false) (fun i=>l.length - i) 0 ⟨Nat.zero_le _,fun j hj=>by omega⟩ [0,1,2] (by simp only [leq,leA,ev0,evA,evB,evP,fl,gp,tab,simprocAttr,reduceCtorEq,reduceIte]<;>trivial) fun i hi=>?_
   obtain ⟨hi1,hi2⟩:=hi
   refine qm (qm ?_)
   refine hk_region fun K hK=>runs_eval tab_ok ?_
   simp only [ev0,evA,evB,evP,fl,gp,tab,simprocAttr,reduceCtorEq,reduceIte]
   refine fin_run trivial (hK _ ?_)<;>clear hK<;>clear K
   refine qa ?_
   refine hk_cond rfl (fun hC3=>?_) (fun hC3=>?_)
   ·(try simp only [nhs] at hC3)
    have hlt:i < l.length:=by omega
    refine qh (qa (qm (ql (qm ?_))))
    by_cases g9a:l.getD i 0 < 0
    ·refine hk_draw mixed (by kernel_rfl) fun K hK=>runs_eval tab_ok ?_
     simp only [ev0,evA,evB,evP,fl,gp,tab,simprocAttr,reduceCtorEq,reduceIte,il_get hlt,decide_eq_true g9a]
     refine fin_run ?_ (hK _ ?_)<;>clear hK<;>clear K
     ·(first|exact trivial|omega|(simp only [In64] at *; omega)|(simp [In64] at *; omega)|(simp_all; done)|skip)
     refine qa ?_
     refine hk_cond rfl (fun hC4=>?_) (fun hC4=>?_)
     ·refine qm ?_
      refine hk_region fun K hK=>runs_eval tab_ok ?_
      simp only [ev0,evA,evB,evP,fl,gp,tab,simprocAttr,reduceCtorEq,reduceIte]
      refine fin_stop trivial (runs_call (f_c 3 i) rfl rfl rfl (by simp only [dstOk,Nat.reduceLT]) (by repeat (first|exact trivial|constructor)) (runs_eval tab_ok ?_))
      simp only [ev0,evA,evB,evP,fl,gp,tab,simprocAttr,reduceCtorEq,reduceIte]
      refine fin_run ?_ (hK _ ?_)<;>clear hK<;>clear K
      ·(first|exact trivial|omega|(simp only [In64] at *; omega)|(simp [In64] at *; omega)|(simp_all; done)|skip)
      refine qa (qk (qe (qb (qb (qe (qb ?_))))))
      simp only [Tryd.results25,enA,ev0,evA,evB,evP,fl,gp,tab,simprocAttr,reduceCtorEq,reduceIte]
      all_goals (rw [homf_3 hC1 hC2 hlt (decide_eq_true (.inl g9a)) hi2]; simp)
     ·cases hC4
    ·refine hk_draw mixed (by kernel_rfl) fun K hK=>runs_eval tab_ok ?_
     simp only [ev0,evA,evB,evP,fl,gp,tab,simprocAttr,reduceCtorEq,reduceIte,il_get hlt,decide_eq_false g9a]
     refine fin_run ?_ (hK _ ?_)<;>clear hK<;>clear K
     ·(first|exact trivial|omega|(simp only [In64] at *; omega)|(simp [In64] at *; omega)|(simp_all; done)|skip)
     refine qa ?_
     refine hk_cond rfl (fun hC4=>?_) (fun hC4=>?_)
     ·(try simp only [nhs] at hC4)
      refine qm ?_
      refine hk_region fun K hK=>runs_eval tab_ok ?_
      simp only [ev0,evA,evB,evP,fl,gp,tab,simprocAttr,reduceCtorEq,reduceIte]
      refine fin_stop trivial (runs_call (f_c 3 i) rfl rfl rfl (by simp only [dstOk,Nat.reduceLT]) (by repeat (first|exact trivial|constructor)) (runs_eval tab_ok ?_))
      simp only [ev0,evA,evB,evP,fl,gp,tab,simprocAttr,reduceCtorEq,reduceIte]
      refine fin_run ?_ (hK _ ?_)<;>clear hK<;>clear K
      ·(first|exact trivial|omega|(simp only [In64] at *; omega)|(simp [In64] at *; omega)|(simp_all; done)|skip)
      refine qa (qk (qe (qb (qb (qe (qb ?_))))))
      simp only [Tryd.results25,enA,ev0,evA,evB,evP,fl,gp,tab,simprocAttr,reduceCtorEq,reduceIte]
      all_goals (rw [homf_3 hC1 hC2 hlt (decide_eq_true (.inr hC4)) hi2]; simp)
     ·(try simp only [nhs] at hC4)
      refine qh (qd (qa ?_))
      refine hk_region fun K hK=>runs_eval tab_ok ?_
      simp only [ev0,evA,evB,evP,fl,gp,tab,simprocAttr,reduceCtorEq,reduceIte]
      refine fin_run ?_ (hK _ ?_)<;>clear hK<;>clear K
      ·(first|exact trivial|omega|(simp only [In64] at *; omega)|(simp [In64] at *; omega)|(simp_all; done)|skip)
      refine qa ?_
      refine ⟨i + 1,[0,1,2],⟨by omega,fun j hj=>?_⟩,by omega,?_⟩
      ·by_cases hj:j=i
       ·subst hj; exact decide_eq_false (by omega)
       ·exact hi2 j (by omega)
      ·simp only [leq,leA,ev0,evA,evB,evP,fl,gp,tab,simprocAttr,reduceCtorEq,reduceIte]<;>omega
   ·(try simp only [nhs] at hC3)
    have hall:∀ j,j < l.length→bad n' l j=false:=fun j hj=>hi2 j (by omega)
    have hvv:∀ a,a < n→l.getD a 0=((hv l a:Nat):Int)∧hv l a < n':=fun a ha=>hv_at (hall a (by omega))
    refine qj (qc (qc (qf (qa (qm (qm ?_))))))
    refine hk_region fun K hK=>runs_eval tab_ok ?_
    simp only [ev0,evA,evB,evP,fl,gp,tab,simprocAttr,reduceCtorEq,reduceIte]
    refine fin_run trivial (hK _ ?_)<;>clear hK<;>clear K
    refine qa (ql ?_)
    refine hk_loop (ι:=Nat) (fun a=>⟨79,[(2,.p (.list (il l))),(3,.ptr 0 0),(4,.ptr 1 0),(6,.ptr 2 0),(9,.p (.int .i64 a))],[.own [.p (.int .i64 n),.p (.list (il m))],.own [.p (.int .i64 n'),.p (.list (il m'))],.own [.p (.int .i64 0),.p (.int .i64 0)]]⟩) (fun a=>a≤n∧∀ j,j < a→hgood m m' l n n' j) (fun a=>n - a) 0 ⟨Nat.zero_le _,fun j hj=>by omega⟩ [0,1,2] (by simp only [leq,leA,ev0,evA,evB,evP,fl,gp,tab,simprocAttr,reduceCtorEq,reduceIte]<;>trivial) fun a ha=>?_
    obtain ⟨ha1,ha2⟩:=ha
    refine qm (qm ?_)
    refine hk_region fun K hK=>runs_eval tab_ok ?_
    simp only [ev0,evA,evB,evP,fl,gp,tab,simprocAttr,reduceCtorEq,reduceIte]
    refine fin_run ?_ (hK _ ?_)<;>clear hK<;>clear K
    ·(first|exact trivial|omega|(simp only [In64] at *; omega)|(simp [In64] at *; omega)|(simp_all; done)|skip)
    refine qa ?_
    refine hk_cond rfl (fun hC5=>?_) (fun hC5=>?_)
    ·(try simp only [nhs] at hC5)
     have hal:a < n:=by omega
     refine qh (qa (qm (ql (qm ?_))))
     refine hk_region fun K hK=>runs_eval tab_ok ?_
     simp only [ev0,evA,evB,evP,fl,gp,tab,simprocAttr,reduceCtorEq,reduceIte]
     refine fin_run trivial (hK _ ?_)<;>clear hK<;>clear K
     refine qa (ql ?_)
     refine hk_loop (ι:=Nat) (fun b=>⟨79,[(2,.p (.list (il l))),(3,.ptr 0 0),(4,.ptr 1 0),(6,.ptr 2 0),(9,.p (.int .i64 a)),(10,.p (.int .i64 b))],[.own [.p (.int .i64 n),.p (.list (il m))],.own [.p (.int .i64 n'),.p (.list (il m'))],.own [.p (.int .i64 0),.p (.int .i64 0)]]⟩) (fun b=>b≤n∧∀ j,j < b→op m' n' (hv l a) (hv l j)=hv l (op m n a j)) (fun b=>n - b) 0 ⟨Nat.zero_le _,fun j hj=>by omega⟩ [0,1,2] (by simp only [leq,leA,ev0,evA,evB,evP,fl,gp,tab,simprocAttr,reduceCtorEq,reduceIte]<;>trivial) fun b hb=>?_
     obtain ⟨hb1,hb2⟩:=hb
     refine qm (qm ?_)
     refine hk_region fun K hK=>runs_eval tab_ok ?_
     simp only [ev0,evA,evB,evP,fl,gp,tab,simprocAttr,reduceCtorEq,reduceIte]
     refine fin_run ?_ (hK _ ?_)<;>clear hK<;>clear K
     ·(first|exact trivial|omega|(simp only [In64] at *; omega)|(simp [In64] at *; omega)|(simp_all; done)|skip)
     refine qa ?_
     refine hk_cond rfl (fun hC6=>?_) (fun hC6=>?_)
     ·(try simp only [nhs] at hC6)
      have hbl:b < n:=by omega
      have hab:=T.lt hal hbl
      obtain ⟨ea,la⟩:=hvv a hal
      obtain ⟨eb,lb⟩:=hvv b hbl
      obtain ⟨ec,lc⟩:=hvv _ hab
      refine qh (qa (qm (ql (qm ?_))))
      refine hk_draw mixed (by kernel_rfl) fun K hK=>runs_eval tab_ok ?_
      simp only [ev0,evA,evB,evP,fl,gp,tab,simprocAttr,reduceCtorEq,reduceIte,il_get (show a < l.length by omega),il_get (show b < l.length by omega),il_get (show op m n a b < l.length by omega),ea,eb,ec]
      refine fin_stop ?_ (runs_call (m_c T' la lb) rfl rfl rfl (by simp only [dstOk,Nat.reduceLT]) (by repeat (first|exact trivial|constructor)) (runs_eval tab_ok ?_))
      ·(first|exact trivial|omega|(simp only [In64] at *; omega)|(simp [In64] at *; omega)|(simp_all; done)|skip)
      simp only [ev0,evA,evB,evP,fl,gp,tab,simprocAttr,reduceCtorEq,reduceIte,il_get (show a < l.length by omega),il_get (show b < l.length by omega),il_get (show op m n a b < l.length by omega),ea,eb,ec]
      refine fin_stop trivial (runs_call (m_c T hal hbl) rfl rfl rfl (by simp only [dstOk,Nat.reduceLT]) (by repeat (first|exact trivial|constructor)) (runs_eval tab_ok ?_))
      simp only [ev0,evA,evB,evP,fl,gp,tab,simprocAttr,reduceCtorEq,reduceIte,il_get (show a < l.length by omega),il_get (show b < l.length by omega),il_get (show op m n a b < l.length by omega),ea,eb,ec]
      refine fin_run ?_ (hK _ ?_)<;>clear hK<;>clear K
      ·(first|exact trivial|omega|(simp only [In64] at *; omega)|(simp [In64] at *; omega)|(simp_all; done)|skip)
      refine qa ?_
      refine hk_cond rfl (fun hC7=>?_) (fun hC7=>?_)
      ·(try simp only [nhs] at hC7)
       refine qm ?_
       refine hk_region fun K hK=>runs_eval tab_ok ?_
       simp only [ev0,evA,evB,evP,fl,gp,tab,simprocAttr,reduceCtorEq,reduceIte]
       refine fin_stop trivial (runs_call (f_c 7 a) rfl rfl rfl (by simp only [dstOk,Nat.reduceLT]) (by repeat (first|exact trivial|constructor)) (runs_eval tab_ok ?_))
       simp only [ev0,evA,evB,evP,fl,gp,tab,simprocAttr,reduceCtorEq,reduceIte]
       refine fin_run ?_ (hK _ ?_)<;>clear hK<;>clear K
       ·(first|exact trivial|omega|(simp only [In64] at *; omega)|(simp [In64] at *; omega)|(simp_all; done)|skip)
       refine qa (qk (qe (qb (qb (qe (qe (qb (qb (qe (qb ?_))))))))))
       simp only [Tryd.results25,enA,ev0,evA,evB,evP,fl,gp,tab,simprocAttr,reduceCtorEq,reduceIte]
       all_goals (rw [homf_2 hC1 hC2 hall,homf2_7 hal (fun h=>hC7 (by rw [h b hbl])) ha2]; simp)
      ·(try simp only [nhs] at hC7)
       refine qh (qd (qa ?_))
       refine hk_region fun K hK=>runs_eval tab_ok ?_
       simp only [ev0,evA,evB,evP,fl,gp,tab,simprocAttr,reduceCtorEq,reduceIte]
       refine fin_run ?_ (hK _ ?_)<;>clear hK<;>clear K
       ·(first|exact trivial|omega|(simp only [In64] at *; omega)|(simp [In64] at *; omega)|(simp_all; done)|skip)
       refine qa ?_
       refine ⟨b + 1,[0,1,2],⟨by omega,fun j hj=>?_⟩,by omega,?_⟩
       ·by_cases hj:j=b
        ·subst hj; omega
        ·exact hb2 j (by omega)
       ·simp only [leq,leA,ev0,evA,evB,evP,fl,gp,tab,simprocAttr,reduceCtorEq,reduceIte]<;>omega
     ·(try simp only [nhs] at hC6)
      refine qj (qc (qc (qf (qd (qa ?_)))))
      refine hk_region fun K hK=>runs_eval tab_ok ?_
      simp only [ev0,evA,evB,evP,fl,gp,tab,simprocAttr,reduceCtorEq,reduceIte]
      refine fin_run ?_ (hK _ ?_)<;>clear hK<;>clear K
      ·(first|exact trivial|omega|(simp only [In64] at *; omega)|(simp [In64] at *; omega)|(simp_all; done)|skip)
      refine qa ?_
      refine ⟨a + 1,[0,1,2],⟨by omega,fun j hj=>?_⟩,by omega,?_⟩
      ·by_cases hj:j=a
       ·subst hj; exact fun c' hc'=>hb2 c' (by omega)
       ·exact ha2 j (by omega)
      ·simp only [leq,leA,ev0,evA,evB,evP,fl,gp,tab,simprocAttr,reduceCtorEq,reduceIte]<;>omega
    ·(try simp only [nhs] at hC5)
     refine qj (qc (qc (qf (qa (qm ?_)))))
     refine hk_region fun K hK=>runs_eval tab_ok ?_
     simp only [ev0,evA,evB,evP,fl,gp,tab,simprocAttr,reduceCtorEq,reduceIte]
     refine fin_run ?_ (hK _ ?_)<;>clear hK<;>clear K
     ·(first|exact trivial|omega|(simp only [In64] at *; omega)|(simp [In64] at *; omega)|(simp_all; done)|skip)
     refine qa (qk ?_)
     simp only [Tryd.results25,enA,ev0,evA,evB,evP,fl,gp,tab,simprocAttr,reduceCtorEq,reduceIte]
     all_goals (rw [homf_2 hC1 hC2 hall,homf2_0 (fun j hj=>ha2 j (by omega))]; simp)

end Go.Proofs.YtboadfahlflmhaaDoor

/-
  Walks: what makes a group, one by one; a map of some things, spread to all. Conditions: none.
-/
set_option linter.all false
namespace Go.Proofs.YtboadfahlflmhaaDoor
open Go.Pv

def nl (L:List Nat):List Int:=L.map fun x=>((x:Nat):Int)
theorem nl_len (L:List Nat):(nl L).length=L.length:=by simp [nl]
theorem nl_get {L:List Nat} {i:Nat} (hi:i < L.length):(nl L).getD i 0=((L.getD i 0:Nat):Int):=by
 simp [nl,List.getD,List.getElem?_eq_getElem hi]
theorem nl_snoc (L:List Nat) (x:Nat):nl (L++[x])=nl L++[((x:Nat):Int)]:=by simp [nl]
section
variable (n:Nat) (f:Nat→Nat→Nat) (e:Nat)
/-- The least things that make a group, one by one. -/
noncomputable def gl:Nat→List Nat
 | 0=>[]
 | a + 1=>if gn n f e (fun x=>decide (x∈gl a)) a then gl a else gl a++[a]
theorem gl_lt:∀ (a:Nat),∀ x∈gl n f e a,x < a
 | 0,x,h=>by simp [gl] at h
 | a + 1,x,h=>by
  unfold gl at h
  split at h
  ·have:=gl_lt a x h; omega
  ·rcases List.mem_append.1 h with h | h
   ·have:=gl_lt a x h; omega
   ·have:x=a:=by simpa using h
    omega
theorem gl_len:∀ a,(gl n f e a).length≤a
 | 0=>by simp [gl]
 | a + 1=>by
  have:=gl_len a
  unfold gl
  split
  ·omega
  ·simp; omega
theorem gl_mono {a b : Nat} (h : a ≤ b) : ∀ x ∈ gl n f e a, x ∈ gl n f e b := by
  induction b with
  | zero => obtain rfl : a = 0 := by omega
            exact fun x h => h
  | succ b ih =>
    by_cases hab : a = b + 1
    · subst hab; exact fun x h => h
    · intro x hx
      have := ih (by omega) x hx
      unfold gl
      split
      · exact this
      · exact List.mem_append.2 (.inl this)
theorem gl_gen (G:Grp n f e) (a:Nat) (ha:a < n):Gen n f e (fun x=>decide (x∈gl n f e n)) a:=by
 by_cases h:gn n f e (fun x=>decide (x∈gl n f e a)) a=true
 ·exact Gen.mono (fun b _ hb=>by simp only [decide_eq_true_eq] at hb ⊢; exact gl_mono n f e (Nat.le_of_lt ha) b hb) ((gn_iff _ a ha).1 h)
 ·have h1:a∈gl n f e (a + 1):=by
   unfold gl
   rw [if_neg h]; simp
  have h2:=gl_mono n f e (show a + 1≤n from ha) a h1
  exact Gen.mem G ha (by simpa using h2)
end

section
variable {n e:Nat} {m:List Int}
theorem gens_c (h : GT n m n e) : FnC Tryd.prog 128 [gp n m] (.list (il (nl (gl n (op m n) e n)))) := by
  have G := h.2.2
  have hb := h.2.1.big
  have hbt : ∀ p, bo n p < 2 ^ 64 := fun p => bo_lt64 hb p
  have hgen0 : ∀ a, a < n → (gn n (op m n) e (fun x => decide (x ∈ gl n (op m n) e 0)) a = true ↔ Gen n (op m n) e (Nat.testBit 0) a) := fun a ha => by
    rw [gn_iff _ a ha]
    exact ⟨Gen.mono fun b _ hb => by simp [gl] at hb, Gen.mono fun b _ hb => by simp at hb⟩
  refine fnc_of tab_ok Tryd.func128 rfl (by kernel_rfl) (by rw [Tryd.ntmps128]; exact Nat.le_add_left 1 _) ?_; rw [Tryd.ntmps128]
  refine qm ?_
  refine hk_region fun K hK => runs_eval tab_ok ?_
  simp only [ev0, evA, evB, evP, fl, gp, tab, simprocAttr, reduceCtorEq, reduceIte]
  refine fin_run ?_ (hK _ ?_) <;> clear hK <;> clear K
  · (first | exact trivial | omega | (simp only [In64] at *; omega) | (simp [In64] at *; omega) | (simp_all; done) | skip)
  refine qa (qm ?_)
  refine hk_region fun K hK => runs_eval tab_ok ?_
  simp only [ev0, evA, evB, evP, fl, gp, tab, simprocAttr, reduceCtorEq, reduceIte]
  refine fin_run trivial (hK _ ?_) <;> clear hK <;> clear K
  refine qa (qm ?_)
  refine hk_own0 3 rfl ?_
  refine hk_region fun K hK => runs_eval tab_ok ?_
  simp only [ev0, evA, evB, evP, fl, gp, tab, simprocAttr, reduceCtorEq, reduceIte]
  refine fin_stop trivial (runs_call (grow_c h 0 (Nat.pow_pos (by omega)) _ hgen0) rfl rfl rfl (by simp only [dstOk, Nat.reduceLT]) (by repeat (first | exact trivial | constructor)) (runs_eval tab_ok ?_))
  simp only [ev0, evA, evB, evP, fl, gp, tab, simprocAttr, reduceCtorEq, reduceIte]
  refine fin_run ?_ (hK _ ?_) <;> clear hK <;> clear K
  · (first | exact trivial | omega | (simp only [In64] at *; omega) | (simp [In64] at *; omega) | (simp_all; done) | skip)
  refine qa (qm (qm ?_))
  refine hk_region fun K hK => runs_eval tab_ok ?_
  simp only [ev0, evA, evB, evP, fl, gp, tab, simprocAttr, reduceCtorEq, reduceIte]
  refine fin_run ?_ (hK _ ?_) <;> clear hK <;> clear K
  · (first | exact trivial | omega | (simp only [In64] at *; omega) | (simp [In64] at *; omega) | (simp_all; done) | skip)
  refine qa (ql ?_)
  refine hk_loop (ι := Nat) (fun a => ⟨29, [(1, .ptr 0 0), (3, .sl 1 0 (nl (gl n (op m n) e a)).length), (4, .p (.int .u64 (bo n (gn n (op m n) e (fun x => decide (x ∈ gl n (op m n) e a)))))), (9, .p (.int .i64 n)), (10, .p (.int .i64 a))], [.own [.p (.int .i64 n), .p (.list (il m))], .own (ol (nl (gl n (op m n) e a)))]⟩) (fun a => a ≤ n) (fun a => n - a) 0 (Nat.zero_le _) [0, 1] (by simp only [leq, leA, ev0, evA, evB, evP, fl, gp, tab, simprocAttr, reduceCtorEq, reduceIte] <;> first | trivial | exact ⟨rfl, rfl⟩ | rfl) fun a ha => ?_
  refine qm ?_
  refine hk_region fun K hK => runs_eval tab_ok ?_
  simp only [ev0, evA, evB, evP, fl, gp, tab, simprocAttr, reduceCtorEq, reduceIte]
  refine fin_run trivial (hK _ ?_) <;> clear hK <;> clear K
  refine qa (qm ?_)
  refine hk_cond rfl (fun hC1 => ?_) (fun hC1 => ?_)
  · (try simp only [nhs] at hC1)
    have hal : a < n := by omega
    have hl := gl_len n (op m n) e a
    have hnl := nl_len (gl n (op m n) e a)
    have htk : List.take (nl (gl n (op m n) e a)).length (nl (gl n (op m n) e a)) = nl (gl n (op m n) e a) := List.take_length
    have hs : gl n (op m n) e (a + 1) = if gn n (op m n) e (fun x => decide (x ∈ gl n (op m n) e a)) a then gl n (op m n) e a else gl n (op m n) e a ++ [a] := rfl
    have hpw := pow_lt64 (b := a) (by omega)
    have hbb := bo_bit n (gn n (op m n) e (fun x => decide (x ∈ gl n (op m n) e a))) a
    rw [show decide (a < n) = true by simpa using hal, Bool.true_and] at hbb
    refine qh (qa (qm (ql (qm ?_))))
    refine hk_region fun K hK => runs_eval tab_ok ?_
    simp only [ev0, evA, evB, evP, fl, gp, tab, simprocAttr, reduceCtorEq, reduceIte]
    refine fin_run trivial (hK _ ?_) <;> clear hK <;> clear K
    refine qa (qm ?_)
    refine hk_region fun K hK => runs_eval tab_ok ?_
    simp only [ev0, evA, evB, evP, fl, gp, tab, simprocAttr, reduceCtorEq, reduceIte]
    refine fin_stop trivial (runs_call (has_s _ a (hbt _) (by omega)) rfl rfl rfl (by simp only [dstOk, Nat.reduceLT]) (by repeat (first | exact trivial | constructor)) (runs_eval tab_ok ?_))
    simp only [ev0, evA, evB, evP, fl, gp, tab, simprocAttr, reduceCtorEq, reduceIte, hbb]
    refine fin_run trivial (hK _ ?_) <;> clear hK <;> clear K
    refine qa ?_
    refine hk_cond rfl (fun hC2 => ?_) (fun hC2 => ?_)
    · (try simp only [nhs] at hC2)
      have hC2f : gn n (op m n) e (fun x => decide (x ∈ gl n (op m n) e a)) a = false := by simpa using hC2
      rw [if_neg (by simp [hC2f])] at hs
      have hst : ∀ y, y < n → (gn n (op m n) e (fun x => decide (x ∈ gl n (op m n) e (a + 1))) y = true ↔ Gen n (op m n) e (bo n (gn n (op m n) e (fun x => decide (x ∈ gl n (op m n) e a))) ||| 2 ^ a).testBit y) := fun y hy => by
        rw [gn_iff _ y hy, hs]
        constructor
        · intro hg
          refine Gen.least (H := fun y => Gen n (op m n) e (bo n (gn n (op m n) e (fun x => decide (x ∈ gl n (op m n) e a))) ||| 2 ^ a).testBit y) .one (fun c b hc hb1 hb2 ih => ?_) hg
          refine .step _ _ ih hb1 ?_
          rw [or_bit, Bool.or_eq_true, decide_eq_true_eq, bo_bit, Bool.and_eq_true, decide_eq_true_eq]
          rcases List.mem_append.1 (show b ∈ gl n (op m n) e a ++ [a] by simpa using hb2) with hb2 | hb2
          · exact .inl ⟨hb1, (gn_iff _ b hb1).2 (Gen.mem G hb1 (by simpa using hb2))⟩
          · exact .inr (by have : b = a := by simpa using hb2
                           omega)
        · intro hg
          refine Gen.least (H := fun y => Gen n (op m n) e (fun x => decide (x ∈ gl n (op m n) e a ++ [a])) y) .one (fun c b hc hb1 hb2 ih => ?_) hg
          refine Gen.mul G ih ?_
          rw [or_bit, Bool.or_eq_true, decide_eq_true_eq, bo_bit, Bool.and_eq_true, decide_eq_true_eq] at hb2
          rcases hb2 with hb2 | hb2
          · exact Gen.mono (fun x _ hx => by simp at hx ⊢; exact .inl hx) ((gn_iff _ b hb1).1 hb2.2)
          · exact Gen.mem G hb1 (by simp [hb2])
      refine qm ?_
      refine hk_region fun K hK => runs_eval tab_ok ?_
      simp only [ev0, evA, evB, evP, fl, gp, tab, simprocAttr, reduceCtorEq, reduceIte]
      refine fin_run ?_ (hK _ ?_) <;> clear hK <;> clear K
      · (first | exact trivial | omega | (simp only [In64] at *; omega) | (simp [In64] at *; omega) | (simp_all; done) | skip)
      refine qa ?_
      refine hk_draw mixed (by kernel_rfl) fun K hK => runs_eval tab_ok ?_
      simp only [ev0, evA, evB, evP, fl, gp, tab, simprocAttr, reduceCtorEq, reduceIte, shl_one (show a < 64 by omega), bv_or (hbt _) hpw]
      refine fin_stop ?_ (runs_call (grow_c h _ (Nat.or_lt_two_pow (bo_lt n _) (Nat.pow_lt_pow_right (by omega) hal)) _ hst) rfl rfl rfl (by simp only [dstOk, Nat.reduceLT]) (by repeat (first | exact trivial | constructor)) (runs_eval tab_ok ?_))
      · (first | exact trivial | omega | (simp only [In64] at *; omega) | (simp [In64] at *; omega) | (simp_all; done) | skip)
      simp only [ev0, evA, evB, evP, fl, gp, tab, simprocAttr, reduceCtorEq, reduceIte, shl_one (show a < 64 by omega), bv_or (hbt _) hpw]
      refine fin_run ?_ (hK _ ?_) <;> clear hK <;> clear K
      · (first | exact trivial | omega | (simp only [In64] at *; omega) | (simp [In64] at *; omega) | (simp_all; done) | skip)
      refine qd (qa ?_)
      refine hk_region fun K hK => runs_eval tab_ok ?_
      simp only [ev0, evA, evB, evP, fl, gp, tab, simprocAttr, reduceCtorEq, reduceIte]
      refine fin_run ?_ (hK _ ?_) <;> clear hK <;> clear K
      · (first | exact trivial | omega | (simp only [In64] at *; omega) | (simp [In64] at *; omega) | (simp_all; done) | skip)
      refine qa ?_
      refine ⟨a + 1, [0, 2], by omega, by omega, ?_⟩
      rw [hs, nl_snoc]
      simp only [leq, leA, ev0, evA, evB, evP, fl, gp, tab, simprocAttr, reduceCtorEq, reduceIte] <;> first | trivial | omega | (simp; done) | trace_state
    · (try simp only [nhs] at hC2)
      have hC2t : gn n (op m n) e (fun x => decide (x ∈ gl n (op m n) e a)) a = true := by simpa using hC2
      rw [if_pos hC2t] at hs
      refine qh (qd (qa ?_))
      refine hk_region fun K hK => runs_eval tab_ok ?_
      simp only [ev0, evA, evB, evP, fl, gp, tab, simprocAttr, reduceCtorEq, reduceIte]
      refine fin_run ?_ (hK _ ?_) <;> clear hK <;> clear K
      · (first | exact trivial | omega | (simp only [In64] at *; omega) | (simp [In64] at *; omega) | (simp_all; done) | skip)
      refine qa ?_
      refine ⟨a + 1, [0, 1], by omega, by omega, ?_⟩
      rw [hs]
      simp only [leq, leA, ev0, evA, evB, evP, fl, gp, tab, simprocAttr, reduceCtorEq, reduceIte] <;> first | trivial | omega
  · (try simp only [nhs] at hC1)
    obtain rfl : a = n := by omega
    refine qj (qc (qc (qf (qa (qm ?_)))))
    refine hk_seal 3 1 rfl rfl ?_
    refine hk_region fun K hK => runs_eval tab_ok ?_
    simp only [ev0, evA, evB, evP, fl, gp, tab, simprocAttr, reduceCtorEq, reduceIte]
    refine fin_run trivial (hK _ ?_) <;> clear hK <;> clear K
    refine qa (qk ?_)
    simp only [Tryd.results128, enA, ev0, evA, evB, evP, fl, gp, tab, simprocAttr, reduceCtorEq, reduceIte]
    all_goals ((first | exact rfl | exact ⟨rfl, rfl⟩ | exact ⟨rfl, rfl, rfl⟩ | exact ⟨trivial, rfl⟩ | exact ⟨Nat.le_refl _, rfl⟩ | trivial | (simp; done)))
end
end Go.Proofs.YtboadfahlflmhaaDoor

/-
  Calls that write what is the caller's own: contracts over blocks. Conditions: none; a library text.
-/
set_option linter.all false
namespace Go.Pv
open Go.RowKit

def ancs:Nat→Nat→Heap
 | _,0=>[]
 | k,n + 1=>.anc k k :: ancs (k + 1) n

theorem ancs_get:∀ (n k j:Nat) (b:Blk),(ancs k n)[j]? = some b→j < n∧b = .anc (k + j) (k + j)
 | 0,k,j,b,h=>by simp [ancs] at h
 | n + 1,k,0,b,h=>by simp [ancs] at h; exact ⟨by omega,h.symm⟩
 | n + 1,k,j + 1,b,h=>by
  have:=ancs_get n (k + 1) j b (by simpa [ancs] using h)
  refine ⟨by omega,?_⟩
  rw [this.2,show k + 1 + j=k + (j + 1) by omega]

theorem ancs_at:∀ (n k j:Nat),j < n→(ancs k n)[j]? = some (.anc (k + j) (k + j))
 | n + 1,k,0,_=>rfl
 | n + 1,k,j + 1,h=>by
  rw [show ancs k (n + 1) = .anc k k :: ancs (k + 1) n from rfl,List.getElem?_cons_succ,ancs_at n (k + 1) j (by omega),show k + 1 + j=k + (j + 1) by omega]

def entA:Nat→List AV→List (Nat × AV)
 | _,[]=>[]
 | k,a :: r=>(k,a) :: entA (k + 1) r

theorem entA_lk:∀ (l:List AV) (k t:Nat),lk (entA k l) t=if k≤t then l.getD (t - k) .dead else .dead
 | [],k,t=>by simp [entA,lk]
 | a :: r,k,t=>by
  simp only [entA,lk]
  by_cases h:k=t
  ·subst h; simp
  ·rw [show (k == t)=false by simpa using h]
   simp only [cond_false]
   rw [entA_lk r (k + 1) t]
   by_cases hk:k≤t
   ·rw [if_pos (by omega),if_pos hk,show t - k=(t - (k + 1)) + 1 by omega]; rfl
   ·rw [if_neg (by omega),if_neg hk]

theorem app_get {H X:Heap} {k:Nat} {b:Blk} (h:(H++X)[k]? = some b):(k < H.length∧H[k]? = some b)∨X[k - H.length]? = some b:=by
 by_cases hk:k < H.length
 ·exact .inl ⟨hk,by rwa [List.getElem?_append_left hk] at h⟩
 ·exact .inr (by rwa [List.getElem?_append_right (by omega)] at h)

section
variable {P:Program} {T:TypeId→Option TI} {C:Ctx} {m:Map} {s:St} {tmps:Array Value} {w:World}

theorem Rel.addAnc (R:Rel C m s tmps w) {n:Nat} (hn:n≤s.H.length) (ha:∀ i,i < n→m i=C.anc i):Rel C m { s with H:=s.H++ancs 0 n } tmps w:=by
 have gen:∀ (k:Nat) (b:Blk),(∀ i j,b ≠ .anc i j)→(s.H++ancs 0 n)[k]? = some b→k < s.H.length∧s.H[k]? = some b:=by
  intro k b hb h
  rcases app_get h with h | h
  ·exact h
  ·exact absurd (ancs_get _ _ _ _ h).2 (hb _ _)
 have own:∀ (k:Nat) (c:List AV),(s.H++ancs 0 n)[k]? = some (.own c)→k < s.H.length∧s.H[k]? = some (.own c):=fun k c h=>gen k _ (fun _ _ h=>by cases h) h
 have mps:∀ (k:Nat) (kk:IntKind) (d:Int→Bool) (v:Int→PV),(s.H++ancs 0 n)[k]? = some (Blk.mp kk d v)→k < s.H.length∧s.H[k]? = some (Blk.mp kk d v):=fun k _ _ _ h=>gen k _ (fun _ _ h=>by cases h) h
 have ho:∀ b,OK C m s.H w b→OK C m (s.H++ancs 0 n) w b:=fun b h=>⟨h.1,h.2.1,fun k c l hk hl=>h.2.2 k c l (own k c hk).2 hl⟩
 have hlen:s.H.length≤(s.H++ancs 0 n).length:=by simp
 have rd:∀ p v,Reads (OK C m s.H w) w p v→Reads (OK C m (s.H++ancs 0 n) w) w p v:=fun p v h=>h.mono ho
 refine ⟨R.laid.ext rd,R.below,R.base,R.size,fun k k' c c' l l' h1 h2=>R.inj k k' c c' l l' (own k c h1).2 (own k' c' h2).2,fun k c h=>(R.blk k c (own k c h).2).ext rd hlen (fun _ _=>rfl) rfl fun _ _=>rfl,
  fun k c h=>(R.fro k c (gen k _ (fun _ _ h=>by cases h) h).2).ext ho (fun _ _=>rfl) rfl,fun t=>(R.slot t).ext rd hlen fun _ _=>rfl,fun k kk d v h=>(R.mp.1 k kk d v (mps k kk d v h).2).ext ho (fun _ _=>rfl) rfl fun _ _=>rfl,
  fun k k' kk d v kk' d' v' l l' h1 h2=>R.mp.2.1 k k' kk d v kk' d' v' l l' (mps _ _ _ _ h1).2 (mps _ _ _ _ h2).2,fun k i j h=>?_,R.mp.2.2.2.ext id (fun k r h=>⟨(gen k _ (fun _ _ h=>by cases h) h).2,rfl⟩) (fun _ _ _ _ _ _ h=>h) (fun _ _ _ _ _ _=>rfl) fun _ _ _ _ _ h=>h⟩
 rcases app_get h with h | h
 ·obtain ⟨a1,a2⟩:=R.mp.2.2.1 k i j h.2
  exact ⟨by simp; omega,a2⟩
 ·obtain ⟨a1,a2⟩:=ancs_get _ _ _ _ h
  cases a2
  refine ⟨by simp; omega,?_⟩
  rw [ha _ (by omega)]

/-! ### The contract -/

/-- A CONTRACT OVER BLOCKS: called with values that are so over such blocks of the caller's own, the function returns so, over those blocks as they are then, and new ones. -/
def FnM (P:Program) (f:FuncId) (args:List AV) (H0:Heap) (r:AV) (H1:Heap):Prop:=
 Fun P f∧∀ (C:Ctx) (m:Map) (w:World) (vals:Array Value),Rel C m ⟨args.length,entA 0 args,H0++ancs 0 H0.length⟩ vals w →
  Calls P f vals w fun e w'=>∃ v m',e = .returned v∧Rel C m' ⟨1,[(0,r)],H1++ancs 0 H0.length⟩ #[v] w'

theorem fnm_of (hT:∀ t ti,T t=some ti→tiOf P t=some ti) {f:FuncId} {fn:Func} {c:Code} {args:List AV} {av:AV} {H0 H1:Heap} (hf:P.funcs[f]? = some fn) (hb:fn.body=some c) (hnm:(fn.name == "runtime.NumGoroutine")=false) (hn:args.length≤fn.ntmps)
  (h:Holds P c (PostG T fn.results.toList av (H1++ancs 0 H0.length)) ⟨fn.ntmps,entA 0 args,H0++ancs 0 H0.length⟩):FnM P f args H0 av H1:=by
 refine ⟨⟨fn,hf,hnm,by rw [hb]; rfl⟩,fun C m w vals R0=>calls_of_wp hf hb (wpR_none.1 ?_)⟩
 have hsz:vals.size=args.length:=R0.size
 have R:Rel C m ⟨fn.ntmps,entA 0 args,H0++ancs 0 H0.length⟩ (vals++Array.replicate (fn.ntmps - vals.size) undef) w:=by
  refine ⟨R0.laid,R0.below,R0.base,by simp; omega,R0.inj,R0.blk,R0.fro,fun t=>?_,R0.mp⟩
  have hs:=R0.slot t
  by_cases ht:t < vals.size
  ·rw [Array.getD_eq_getD_getElem?,Array.getElem?_append_left ht,← Array.getD_eq_getD_getElem?]
   exact hs
  ·have e:lk (entA 0 args) t = .dead:=by
    rw [entA_lk,if_pos (Nat.zero_le _),List.getD_eq_getElem?_getD,List.getElem?_eq_none (by omega)]; rfl
   unfold St.get
   simp only
   rw [e]
   exact .dead _
 refine wpR_mono (h none [] _ _ { tmps:=vals++Array.replicate (fn.ntmps - vals.size) undef,defers:=[] } w R rfl) fun e a' w' ⟨s',m',h1,h2,h3⟩=>?_
 have fini:endG T fn.results.toList av (H1++ancs 0 H0.length) s'→a'.defers=[]∧∃ v,(results fn a'.tmps).run P w' = .ok v w'∧∃ v_1 m'',Ending.returned v = .returned v_1∧Rel C m'' ⟨1,[(0,av)],H1++ancs 0 H0.length⟩ #[v_1] w':=by
  intro he
  unfold endG at he
  split at he
  ·rename_i p l hl
   obtain ⟨hp,π,hav,hsc,hle⟩:=he
   obtain ⟨vs,e1,e2,e3⟩:=rvsA_run hT h2 fn.results.toList hl hp
   have hv:=mkTup_val (w:=w') e2 e3
   have R':=h2.weaken hle
   rw [hav] at hv
   have hlen:(H1++ancs 0 H0.length).length=π.length:=(hle.2.2.1.get).1.symm
   have ho:=OK.weaken (C:=C) (m:=m') (w:=w') hle.2.2.1
   have hv2:=hv.unren (fun p v h=>h.mono ho) hlen hsc
   refine ⟨h3,(if h:vs.toArray.size=1 then vs.toArray[0] else .tuple vs.toArray),?_,_,_,rfl,R'.laid,R'.below,R'.base,rfl,R'.inj,R'.blk,R'.fro,fun t=>?_,R'.mp⟩
   ·rw [results_eq,Array.mapM_eq_mapM_toList]
    simp only [Sem.run_bind,Sem.run_map]
    rw [e1]
    simp only [Result.andThen_ok]
    rfl
   ·cases t with
    | zero=>exact hv2
    | succ t=>exact .dead _
  ·exact he.elim
 cases e with
 | normal=>exact fini h1
 | ret=>exact fini h1
 | _=>exact h1.elim

/-! ### Who calls it -/

theorem AVal.sig {rd rd' : PV→Value→Prop} {m m2:Map} {H H2:Heap} {σ:List Nat} (h1:∀ p v,rd p v→rd' p v) (hs:∀ k,k < σ.length→σ.getD k 0 < H2.length∧m2 (σ.getD k 0)=m k) {x:AV} {v:Value} (h:AVal rd m H x v)
  (hx:scA σ.length x=true):AVal rd' m2 H2 (Go.Pv.ren σ x) v:=by
 have one:∀ {x:AV} {v:Value},AVal rd m H x v→sc1 σ.length x=true→AVal rd' m2 H2 (ren1 σ x) v:=by
  intro x v h hsc
  cases h with
  | dead v=>exact .dead v
  | p pv v h=>exact .p pv v (h1 _ _ h)
  | sl k lo len v hk h =>
   obtain ⟨g1,g2⟩:=hs k (by simpa [sc1] using hsc)
   refine .sl _ lo len v g1 ?_
   unfold SlOk at *
   rw [g2]; exact h
  | ptr k i v hk h =>
   obtain ⟨g1,g2⟩:=hs k (by simpa [sc1] using hsc)
   refine .ptr _ i v g1 ?_
   unfold PtrOk at *
   rw [g2]; exact h
  | agg l vs hl hr=>simp [sc1] at hsc
  | tup l vs hl hr=>simp [sc1] at hsc
  | cl f l vs hl hr=>simp [sc1] at hsc
  | itv r=>exact .itv r
  | mptr k v hk h =>
   obtain ⟨g1,g2⟩:=hs k (by simpa [sc1] using hsc)
   refine .mptr _ v g1 ?_
   unfold MptrOk at *
   rw [g2]; exact h
  | yv k l vs v hk h hl hr=>simp [sc1] at hsc
 cases x with
 | agg l =>
  cases h with
  | agg _ vs hl hr =>
   refine .agg _ vs (by simpa using hl) fun c hc=>?_
   rw [List.length_map] at hc
   rw [List.getElem_map]
   exact one (hr c hc) ((List.all_eq_true.1 hx) _ (List.getElem_mem hc))
 | tup l =>
  cases h with
  | tup _ vs hl hr =>
   refine .tup _ vs (by simpa using hl) fun c hc=>?_
   rw [List.length_map] at hc
   rw [List.getElem_map]
   exact one (hr c hc) ((List.all_eq_true.1 hx) _ (List.getElem_mem hc))
 | cl f l =>
  cases h with
  | cl _ _ vs hl hr =>
   refine .cl _ _ vs (by simpa using hl) fun c hc=>?_
   rw [List.length_map] at hc
   rw [List.getElem_map]
   exact one (hr c hc) ((List.all_eq_true.1 hx) _ (List.getElem_mem hc))
 | yv k l vs =>
  simp only [scA,Bool.and_eq_true,decide_eq_true_eq] at hx
  cases h with
  | yv _ _ _ _ hk h hl hr =>
   obtain ⟨g1,g2⟩:=hs k hx.1
   refine .yv _ _ vs v g1 ?_ (by simpa using hl) fun c hc=>?_
   ·unfold YvOk at *
    rw [g2]; exact h
   ·rw [List.length_map] at hc
    rw [List.getElem_map]
    exact one (hr c hc) ((List.all_eq_true.1 hx.2) _ (List.getElem_mem hc))
 | dead=>exact one h hx
 | p pv=>exact one h hx
 | sl k lo len=>exact one h hx
 | ptr k i=>exact one h hx
 | mptr k=>exact one h hx
 | itv r=>exact one h hx

/-- Blocks put back: those that were lent, in their places; new ones behind. -/
def putM:Heap→List Nat→Heap→Heap
 | H,[],bs=>H++bs
 | H,_ :: _,[]=>H
 | H,k :: ks,b :: bs=>putM (hset H k b) ks bs

theorem putM_get:∀ (ks:List Nat) (bs H:Heap) (k:Nat) (b:Blk),(∀ k∈ks,k < H.length)→ks.length≤bs.length→(putM H ks bs)[k]? = some b →
  (∃ j:Nat,bs[j]? = some b∧(ks++List.range' H.length (bs.length - ks.length))[j]? = some k)∨(k < H.length∧k ∉ ks∧H[k]? = some b)
 | [],bs,H,k,b,_,_,h=>by
  simp only [putM] at h
  by_cases hk:k < H.length
  ·exact .inr ⟨hk,by simp,by rwa [List.getElem?_append_left hk] at h⟩
  ·rw [List.getElem?_append_right (by omega)] at h
   ·refine .inl ⟨k - H.length,h,?_⟩
    have:=(List.getElem?_eq_some_iff.1 h).1
    simp only [List.nil_append,List.length_nil,Nat.sub_zero]
    rw [List.getElem?_range' this]
    simp; omega
 | k0 :: ks,[],H,k,b,_,hl,_=>by simp at hl
 | k0 :: ks,b0 :: bs,H,k,b,hk,hl,h=>by
  simp only [putM] at h
  have h0:=hk k0 (by simp)
  rcases putM_get ks bs (hset H k0 b0) k b (fun k hk'=>by rw [hset_length]; exact hk k (by simp [hk'])) (by simpa using hl) h with ⟨j,h1,h2⟩ | ⟨h1,h2,h3⟩
  ·rw [hset_length] at h2
   exact .inl ⟨j + 1,by simpa using h1,by simpa using h2⟩
  ·rw [hset_get] at h3
   rw [hset_length] at h1
   by_cases e:k=k0
   ·subst e
    rw [if_pos ⟨rfl,h0⟩] at h3
    exact .inl ⟨0,by simpa using h3,by simp⟩
   ·rw [if_neg (by simp [e])] at h3
    exact .inr ⟨h1,by simp [e,h2],h3⟩

theorem putM_length:∀ (ks:List Nat) (bs H:Heap),ks.length≤bs.length→(putM H ks bs).length=H.length + (bs.length - ks.length)
 | [],bs,H,_=>by simp [putM]
 | k0 :: ks,[],H,hl=>by simp at hl
 | k0 :: ks,b0 :: bs,H,hl=>by
  simp only [putM]
  rw [putM_length ks bs _ (by simpa using hl),hset_length]; simp

/-- Maps stay maps. -/
def mpKeep:Heap→Heap→Bool
 | .mp _ _ _ :: r,.mp _ _ _ :: t=>mpKeep r t
 | .mp _ _ _ :: _,_=>false
 | .lp _ :: r,.lp _ :: t=>mpKeep r t
 | .lp _ :: _,_=>false
 | _ :: r,_ :: t=>mpKeep r t
 | [],_=>true
 | _ :: _,[]=>false

theorem mpKeep_get:∀ {H0 H1:Heap},mpKeep H0 H1=true→∀ (j:Nat) (kk:IntKind) (d:Int→Bool) (v:Int→PV),H0[j]? = some (.mp kk d v)→∃ kk' d' v',H1[j]? = some (.mp kk' d' v')
 | [],_,_,j,_,_,_,h=>by simp at h
 | b :: r,[],hm,_,_,_,_,_=>by cases b<;>simp [mpKeep] at hm
 | b :: r,b' :: t,hm,0,kk,d,v,h=>by
  simp at h; subst h
  cases b'<;>simp [mpKeep] at hm
  exact ⟨_,_,_,rfl⟩
 | b :: r,b' :: t,hm,j + 1,kk,d,v,h=>by
  have hm2:mpKeep r t=true:=by cases b<;>cases b'<;>simp [mpKeep] at hm<;>exact hm
  simpa using mpKeep_get hm2 j kk d v (by simpa using h)
theorem mpKeep_lp:∀ {H0 H1:Heap},mpKeep H0 H1=true→∀ (j:Nat) (r0:Loop),H0[j]? = some (.lp r0)→∃ r1,H1[j]? = some (.lp r1)
 | [],_,_,j,_,h=>by simp at h
 | b :: r,[],hm,_,_,_=>by cases b<;>simp [mpKeep] at hm
 | b :: r,b' :: t,hm,0,r0,h=>by
  simp at h; subst h
  cases b'<;>simp [mpKeep] at hm
  exact ⟨_,rfl⟩
 | b :: r,b' :: t,hm,j + 1,r0,h=>by
  have hm2:mpKeep r t=true:=by cases b<;>cases b'<;>simp [mpKeep] at hm<;>exact hm
  simpa using mpKeep_lp hm2 j r0 (by simpa using h)

def scM (av:AV) (H0 H1:Heap):Bool:=
 scA H1.length av && H1.all (fun | .own c=>c.all (scA H1.length) | .anc _ _=>false | _=>true) && decide (H0.length≤H1.length) && mpKeep H0 H1 && H0.all notAnc

/-- The frame of who is called with blocks that are lent. -/
def subC (C:Ctx) (m:Map) (H:Heap) (ks:List Nat) (H0:Heap) (w:World):Ctx:=
 ⟨fun b=>OK C m H w b,fun b=>w.heap.size≤b∨∃ (j:Nat) (b0:Blk) (l:Loc),H0[j]? = some b0∧b0.wr=true∧mren m ks j=some l∧l.g=b,w,mren m ks⟩

theorem Rel.wrLt (R:Rel C m s tmps w) {k:Nat} {b:Blk} (hb:s.H[k]? = some b) (hw:b.wr=true) {l:Loc} (hl:m k=some l):C.B l.g∧l.g < w.heap.size:=by
 cases b with
 | own c =>
  rcases R.blk k c hb with ⟨_,hn⟩ | ⟨l',cur,e,a1,a2,a3,_⟩
  ·rw [hl] at hn; cases hn
  ·rw [hl] at a1; cases a1
   exact ⟨a2,(Array.getElem?_eq_some_iff.1 a3).1⟩
 | mp kk d v =>
  obtain ⟨l',ar,clk,vs,a1,a2,a3,_⟩:=R.mp.1 k kk d v hb
  rw [hl] at a1; cases a1
  exact ⟨a2,(Array.getElem?_eq_some_iff.1 a3).1⟩
 | lp r =>
  obtain ⟨l',a1,a2,a3⟩:=R.mp.2.2.2.1 k r hb
  rw [hl] at a1; cases a1
  exact ⟨a2,(Array.getElem?_eq_some_iff.1 a3).1⟩
 | _=>cases hw

theorem Rel.inj2 (R:Rel C m s tmps w) {k k' : Nat} {b b' : Blk} (hb:s.H[k]? = some b) (hw:b.wr=true) (hb' : s.H[k']? = some b') (hw' : b'.wr=true) {l l' : Loc} (hl:m k=some l) (hl' : m k' = some l') (e:l.g=l'.g):k=k':=by
 cases b with
 | own c =>
  cases b' with
  | own c'=>exact R.inj k k' c c' l l' hb hb' hl hl' e
  | mp kk d v=>exact absurd e ((R.mpOK hb' hl').2.2 k c l hb hl)
  | lp r=>exact absurd e ((R.lpOK hb' hl').2.2 k c l hb hl)
  | _=>cases hw'
 | mp kk d v =>
  cases b' with
  | own c'=>exact absurd e.symm ((R.mpOK hb hl).2.2 k' c' l' hb' hl')
  | mp kk' d' v'=>exact R.mp.2.1 _ _ _ _ _ _ _ _ _ _ hb hb' hl hl' e
  | lp r =>
   exfalso
   obtain ⟨l1,ar,clk,vs,a1,a2,a3,_⟩:=R.mp.1 k kk d v hb
   obtain ⟨l2,b1,b2,b3⟩:=R.mp.2.2.2.1 k' r hb'
   rw [hl] at a1; cases a1
   rw [hl'] at b1; cases b1
   rw [e,b3] at a3; cases a3
  | _=>cases hw'
 | lp r =>
  cases b' with
  | own c'=>exact absurd e.symm ((R.lpOK hb hl).2.2 k' c' l' hb' hl')
  | mp kk d v =>
   exfalso
   obtain ⟨l1,ar,clk,vs,a1,a2,a3,_⟩:=R.mp.1 k' kk d v hb'
   obtain ⟨l2,b1,b2,b3⟩:=R.mp.2.2.2.1 k r hb
   rw [hl'] at a1; cases a1
   rw [hl] at b1; cases b1
   rw [e,a3] at b3; cases b3
  | lp r'=>exact R.mp.2.2.2.2 _ _ _ _ _ _ hb hb' hl hl' e
  | _=>cases hw'
 | _=>cases hw

theorem LeH.wr {π:List Nat} {H H1:Heap} (h3:LeH π H π H1) {j:Nat} {b0:Blk} (h:H1[j]? = some b0) (hw:b0.wr=true):∃ k' b,π[j]? = some k'∧H[k']? = some b∧b.wr=true∧((∃ c,b0 = .own c)→∃ c,b = .own c)∧((∃ kk d v,b0 = .mp kk d v)→∃ kk d v,b = .mp kk d v):=by
 obtain ⟨g1,g2⟩:=h3.get
 cases b0 with
 | own c =>
  obtain ⟨k',d,a1,a2,_⟩:=LeH.own g2 j c h
  exact ⟨k',_,a1,a2,rfl,(fun _=>⟨_,rfl⟩),fun ⟨_,_,_,h⟩=>by cases h⟩
 | mp kk d v =>
  obtain ⟨k',a,b⟩:=g2 j _ h
  exact ⟨k',_,a,hget_some b (by simp),rfl,(fun ⟨_,h⟩=>by cases h),fun _=>⟨_,_,_,rfl⟩⟩
 | lp r =>
  obtain ⟨k',a,b⟩:=g2 j _ h
  exact ⟨k',_,a,hget_some b (by simp),rfl,(fun ⟨_,h⟩=>by cases h),fun ⟨_,_,_,h⟩=>by cases h⟩
 | _=>cases hw

/-- Blocks that are gone. -/
def kills (H:Heap):List Nat→Heap
 | []=>H
 | k :: ks=>kills (hset H k .dead) ks
theorem kills_length:∀ (ks:List Nat) (H:Heap),(kills H ks).length=H.length
 | [],H=>rfl
 | k :: ks,H=>by rw [kills,kills_length ks,hset_length]
theorem kills_get:∀ (ks:List Nat) (H:Heap) {k:Nat} {b:Blk},(kills H ks)[k]? = some b→(k∈ks∧b = .dead)∨(k ∉ ks∧H[k]? = some b)
 | [],H,k,b,h=>.inr ⟨by simp,h⟩
 | k0 :: ks,H,k,b,h=>by
  rcases kills_get ks _ h with ⟨h1,h2⟩ | ⟨h1,h2⟩
  ·exact .inl ⟨by simp [h1],h2⟩
  ·rw [hset_get] at h2
   by_cases e:k=k0∧k0 < H.length
   ·rw [if_pos e] at h2; exact .inl ⟨by simp [e.1],(Option.some.inj h2).symm⟩
   ·rw [if_neg e] at h2
    by_cases e2:k=k0
    ·have:=(List.getElem?_eq_some_iff.1 h2).1
     exact absurd ⟨e2,by omega⟩ e
    ·exact .inr ⟨by simp [e2,h1],h2⟩

/-- What must be so of what comes back, where the first q blocks stay in their places. -/
def scQ (q:Nat) (av:AV) (H0 H1:Heap):Bool:=
 scA H1.length av && H1.all (fun | .own c=>c.all (scA H1.length) | .anc _ _=>false | _=>true) && decide (q≤H1.length) && decide (q≤H0.length) && mpKeep (H0.take q) H1 && (H0.drop q).all (fun b=>!b.spc) && H0.all notAnc

theorem Rel.joinQ (R:Rel C m s tmps w) {q:Nat} {ks:List Nat} {H0 H1:Heap} {r:AV} {w' : World} {v:Value} {m' : Map} (hle:LeH ks s.H ks H0) (hks:∀ k∈ks,k < s.H.length) (R1:Rel (subC C m s.H ks H0 w) m' ⟨1,[(0,r)],H1++ancs 0 q⟩ #[v] w') (hsc:scQ q r H0 H1=true) :
  ∃ m2,Rel C m2 { s with H:=putM (kills s.H (ks.drop q)) (ks.take q) (H1.map (Blk.ren (ks.take q++List.range' s.H.length (H1.length - q)))) } tmps w' ∧
   AVal (Reads (OK C m2 (putM (kills s.H (ks.drop q)) (ks.take q) (H1.map (Blk.ren (ks.take q++List.range' s.H.length (H1.length - q))))) w') w') m2 (putM (kills s.H (ks.drop q)) (ks.take q) (H1.map (Blk.ren (ks.take q++List.range' s.H.length (H1.length - q))))) (Go.Pv.ren (ks.take q++List.range' s.H.length (H1.length - q)) r) v∧∀ k,k < s.H.length→m2 k=m k:=by
 obtain ⟨g1,g2⟩:=hle.get
 unfold scQ at hsc
 rw [Bool.and_eq_true,Bool.and_eq_true,Bool.and_eq_true,Bool.and_eq_true,Bool.and_eq_true,Bool.and_eq_true,decide_eq_true_eq,decide_eq_true_eq] at hsc
 obtain ⟨⟨⟨⟨⟨⟨s1,s2⟩,s3⟩,s6⟩,s4⟩,s7⟩,s5⟩:=hsc
 have hn:q≤H1.length:=s3
 have hqk:q≤ks.length:=by omega
 have hkt:∀ k∈ks.take q,k∈ks:=fun k h=>List.mem_of_mem_take h
 have htl:(ks.take q).length=q:=by rw [List.length_take]; omega
 generalize hσe:ks.take q++List.range' s.H.length (H1.length - q)=σ
 have hσlen:σ.length=H1.length:=by rw [← hσe,List.length_append,htl,List.length_range']; omega
 generalize hH2:putM (kills s.H (ks.drop q)) (ks.take q) (H1.map (Blk.ren σ))=H2
 have hlen2:H2.length=s.H.length + (H1.length - q):=by rw [← hH2,putM_length _ _ _ (by rw [htl,List.length_map]; exact hn),kills_length,htl]; simp
 
 have hm1:∀ j,j < q→m' j=mren m ks j:=fun j hj=>by
  have h:(H1++ancs 0 q)[H1.length + j]? = some (.anc j j):=by
   rw [List.getElem?_append_right (by omega),Nat.add_sub_cancel_left,ancs_at _ _ _ hj,Nat.zero_add]
  exact (R1.mp.2.2.1 _ _ _ h).2
 obtain ⟨m2,hm2⟩:∃ m2:Map,m2=fun k=>if k < s.H.length then m k else m' (q + (k - s.H.length)):=⟨_,rfl⟩
 have hmo:∀ k,k < s.H.length→m2 k=m k:=fun k h=>by rw [hm2]; simp [h]
 have hσ:∀ (j k:Nat),σ[j]? = some k→k < H2.length∧m2 k=m' j:=by
  intro j k h
  rw [← hσe] at h
  by_cases hj:j < q
  ·rw [List.getElem?_append_left (by omega)] at h
   rw [List.getElem?_take,if_pos hj] at h
   have hk:=hks k (List.mem_of_getElem? h)
   refine ⟨by omega,?_⟩
   rw [hmo k hk,hm1 j (by omega)]
   simp only [mren,h,Option.bind_some]
  ·rw [List.getElem?_append_right (by omega),htl] at h
   have hj2:j - q < H1.length - q:=by
    have:=(List.getElem?_eq_some_iff.1 h).1
    simpa using this
   rw [List.getElem?_range' hj2] at h
   simp only [Option.some.injEq,Nat.one_mul] at h
   subst h
   refine ⟨by omega,?_⟩
   rw [hm2]
   simp only
   rw [if_neg (by omega)]
   congr 1
   omega
 have hσ2:∀ k,k < σ.length→σ.getD k 0 < H2.length∧m2 (σ.getD k 0)=m' k:=fun k hk=>by
  have:σ[k]? = some (σ.getD k 0):=by simp [List.getD,List.getElem?_eq_getElem hk]
  exact hσ k _ this
 have hget:∀ (k:Nat) (b:Blk),H2[k]? = some b→(∃ (j:Nat) (b' : Blk),H1[j]? = some b'∧b=b'.ren σ∧σ[j]? = some k)∨(k < s.H.length∧k ∉ ks∧s.H[k]? = some b)∨b = .dead:=by
  intro k b h
  rw [← hH2] at h
  rcases putM_get (ks.take q) _ (kills s.H (ks.drop q)) k b (fun k hk=>by rw [kills_length]; exact hks k (hkt k hk)) (by rw [htl,List.length_map]; exact hn) h with ⟨j,h1,h2⟩ | ⟨h1,h2,h3⟩
  ·rw [List.length_map,htl,kills_length,hσe] at h2
   rw [List.getElem?_map] at h1
   cases e:H1[j]? with
   | none=>rw [e] at h1; cases h1
   | some b'=>rw [e] at h1; exact .inl ⟨j,b',e,(Option.some.inj h1).symm,h2⟩
  ·rcases kills_get _ _ h3 with ⟨_,e⟩ | ⟨g3,g4⟩
   ·exact .inr (.inr e)
   ·refine .inr (.inl ⟨by rw [kills_length] at h1; exact h1,fun hk=>?_,g4⟩)
    rw [← List.take_append_drop q ks] at hk
    rcases List.mem_append.1 hk with hk | hk
    ·exact h2 hk
    ·exact g3 hk
 have hHc:∀ (j:Nat) (b:Blk),H1[j]? = some b→(H1++ancs 0 q)[j]? = some b:=fun j b h=>by
  rw [List.getElem?_append_left (List.getElem?_eq_some_iff.1 h).1]; exact h
 have hown:∀ (k:Nat) (c:List AV),H2[k]? = some (.own c)→(∃ (j:Nat) (c' : List AV),H1[j]? = some (.own c')∧c=c'.map (Go.Pv.ren σ)∧σ[j]? = some k)∨(k < s.H.length∧k ∉ ks∧s.H[k]? = some (.own c)):=by
  intro k c h
  rcases hget k _ h with ⟨j,b',h1,h2,h3⟩ | h | h
  ·cases b' with
   | own c'=>simp only [Blk.ren,Blk.own.injEq] at h2; exact .inl ⟨j,c',h1,h2,h3⟩
   | _=>cases h2
  ·exact .inr h
  ·cases h
 have hmps:∀ (k:Nat) (kk:IntKind) (d:Int→Bool) (vv:Int→PV),H2[k]? = some (.mp kk d vv)→(∃ j:Nat,H1[j]? = some (.mp kk d vv)∧σ[j]? = some k)∨(k < s.H.length∧k ∉ ks∧s.H[k]? = some (.mp kk d vv)):=by
  intro k kk d vv h
  rcases hget k _ h with ⟨j,b',h1,h2,h3⟩ | h | h
  ·cases b' with
   | mp kk' d' v'=>simp only [Blk.ren,Blk.mp.injEq] at h2; obtain ⟨rfl,rfl,rfl⟩:=h2; exact .inl ⟨j,h1,h3⟩
   | _=>cases h2
  ·exact .inr h
  ·cases h
 have hfro:∀ (k:Nat) (c:List PV),H2[k]? = some (.fro c)→(∃ j:Nat,H1[j]? = some (.fro c)∧σ[j]? = some k)∨(k < s.H.length∧k ∉ ks∧s.H[k]? = some (.fro c)):=by
  intro k c h
  rcases hget k _ h with ⟨j,b',h1,h2,h3⟩ | h | h
  ·cases b' with
   | fro c'=>simp only [Blk.ren,Blk.fro.injEq] at h2; subst h2; exact .inl ⟨j,h1,h3⟩
   | _=>cases h2
  ·exact .inr h
  ·cases h
 have lent:∀ (j:Nat) (b0:Blk) (l:Loc),H0[j]? = some b0→b0.wr=true→mren m ks j=some l→∃ k' b,k'∈ks∧s.H[k']? = some b∧b.wr=true∧m k' = some l∧((∃ c,b0 = .own c)→∃ c,b = .own c)∧((∃ kk d v,b0 = .mp kk d v)→∃ kk d v,b = .mp kk d v):=by
  intro j b0 l h hw hl
  obtain ⟨k',b,a1,a2,a3,a4,a5⟩:=hle.wr h hw
  simp only [mren,a1,Option.bind_some] at hl
  exact ⟨k',b,List.mem_of_getElem? a1,a2,a3,hl,a4,a5⟩
 have hB1:∀ b,(subC C m s.H ks H0 w).B b→C.B b:=by
  intro b hb
  rcases hb with hb | ⟨j,b0,l,h1,h2,h3,rfl⟩
  ·exact R.base b hb
  ·obtain ⟨k',b,_,a2,a3,a4,_⟩:=lent j b0 l h1 h2 h3
   exact (R.wrLt a2 a3 a4).1
 have hBx:∀ (k:Nat) (b:Blk) (l:Loc),k ∉ ks→s.H[k]? = some b→b.wr=true→m k=some l→¬ (subC C m s.H ks H0 w).B l.g:=by
  intro k b l hk hb hw hl hB
  rcases hB with hB | ⟨j,b0,l0,h1,h2,h3,h4⟩
  ·have:=(R.wrLt hb hw hl).2
   omega
  ·obtain ⟨k',b',a1,a2,a3,a4,_⟩:=lent j b0 l0 h1 h2 h3
   have:=R.inj2 hb hw a2 a3 hl a4 h4.symm
   subst this
   exact hk a1
 have hcell:∀ b o x,OK C m s.H w b→w.cell? ⟨b,o,none⟩=some x→w'.cell? ⟨b,o,none⟩=some x:=by
  intro b o x hb hc
  by_cases hB:(subC C m s.H ks H0 w).B b
  ·exfalso
   rcases hB with hB | ⟨j,b0,l0,h1,h2,h3,h4⟩
   ·have:=hb.2.1; omega
   ·obtain ⟨k',b',a1,a2,a3,a4,_⟩:=lent j b0 l0 h1 h2 h3
    cases b' with
    | own c=>exact hb.2.2 k' c l0 a2 a4 h4
    | mp kk d vv =>
     obtain ⟨l',ar,clk,vs,c1,c2,c3,_⟩:=R.mp.1 k' kk d vv a2
     rw [a4] at c1; cases c1
     rw [h4] at c3
     unfold World.cell? at hc
     simp only [c3] at hc
     first|cases hc|simp at hc
    | lp rr =>
     obtain ⟨l',c1,c2,c3⟩:=R.mp.2.2.2.1 k' rr a2
     rw [a4] at c1; cases c1
     rw [h4] at c3
     unfold World.cell? at hc
     simp only [c3] at hc
     first|cases hc|simp at hc
    | _=>cases a3
  ·rw [World.cell?_of_block (w:=w) (R1.below.block b hB)]; exact hc
 have hOK:∀ b,OK (subC C m s.H ks H0 w) m' (H1++ancs 0 q) w' b→OK C m2 H2 w' b:=by
  intro b hb
  refine ⟨?_,hb.2.1,fun k c l h hl=>?_⟩
  ·rcases hb.1 with h | h
   ·exact h.1
   ·exact .inr (hB1 b h)
  ·rcases hown k c h with ⟨j,c',h1,_,h3⟩ | ⟨h1,h2,h3⟩
   ·rw [(hσ j k h3).2] at hl
    exact hb.2.2 j c' l (hHc _ _ h1) hl
   ·rw [hmo k h1] at hl
    rcases hb.1 with h' | h'
    ·exact h'.2.2 k c l h3 hl
    ·intro e
     exact hBx k _ l h2 h3 rfl hl (by rw [e]; exact h')
 have hsp:∀ (j:Nat) (b:Blk),H0[j]? = some b→b.spc=true→j < q:=fun j b h hb=>by
  refine Nat.lt_of_not_le fun hq=>?_
  have h2:(H0.drop q)[j - q]? = some b:=by rw [List.getElem?_drop,show q + (j - q)=j by omega]; exact h
  have:=(List.all_eq_true.1 s7) _ (List.mem_of_getElem? h2)
  rw [hb] at this; cases this
 have ho1:∀ b,OK C m s.H w b→OK C m2 H2 w' b:=by
  intro b hb
  refine ⟨hb.1,Nat.lt_of_lt_of_le hb.2.1 R1.below.size,fun k c l h hl e=>?_⟩
  rcases hown k c h with ⟨j,c',h1,_,h3⟩ | ⟨h1,h2,h3⟩
  ·rw [(hσ j k h3).2] at hl
   rcases (R1.wrLt (hHc _ _ h1) rfl hl).1 with hB | ⟨j0,b0,l0,a1,a2,a3,a4⟩
   ·have:=hb.2.1; omega
   ·obtain ⟨k',b',d1,d2,d3,d4,d5,d6⟩:=lent j0 b0 l0 a1 a2 a3
    cases b0 with
    | own c0 =>
     obtain ⟨c1,rfl⟩:=d5 ⟨_,rfl⟩
     exact hb.2.2 k' c1 l0 d2 d4 (by rw [a4,e])
    | mp kk d vv =>
     have hj0:=hsp j0 _ a1 rfl
     obtain ⟨kk',d',v',f1⟩:=mpKeep_get s4 j0 kk d vv (by rw [List.getElem?_take,if_pos hj0]; exact a1)
     have f2:m' j0=some l0:=by rw [hm1 j0 hj0]; exact a3
     exact (R1.mpOK (hHc _ _ f1) f2).2.2 j c' l (hHc _ _ h1) hl a4.symm
    | lp rr =>
     have hj0:=hsp j0 _ a1 rfl
     obtain ⟨r1,f1⟩:=mpKeep_lp s4 j0 rr (by rw [List.getElem?_take,if_pos hj0]; exact a1)
     have f2:m' j0=some l0:=by rw [hm1 j0 hj0]; exact a3
     exact (R1.lpOK (hHc _ _ f1) f2).2.2 j c' l (hHc _ _ h1) hl a4.symm
    | _=>cases a2
  ·rw [hmo k h1] at hl
   exact hb.2.2 k c l h3 hl e
 have rd1:∀ p x,Reads (OK C m s.H w) w p x→Reads (OK C m2 H2 w') w' p x:=fun p x h=>h.extc ho1 hcell
 have rd2:∀ p x,Reads (OK (subC C m s.H ks H0 w) m' (H1++ancs 0 q) w') w' p x→Reads (OK C m2 H2 w') w' p x:=fun p x h=>h.mono hOK
 have hlen3:s.H.length≤H2.length:=by omega
 have sall:∀ (j:Nat) (b:Blk),H1[j]? = some b→(match b with | .own c=>c.all (scA H1.length) | .anc _ _=>false | _=>true)=true:=fun j b h=>by
  have:=(List.all_eq_true.1 s2) _ (List.mem_of_getElem? h)
  cases b<;>exact this
 refine ⟨m2,⟨R.laid.ext rd1,R.below.trans ⟨R1.below.os,R1.below.tape,R1.below.output,R1.below.size,fun k hk=>R1.below.block k fun h=>hk (hB1 k h),R1.below.dr⟩,fun b h=>R.base b (Nat.le_trans R1.below.size h),R.size,?_,?_,?_,fun t=>?_,?_,?_,?_,?_⟩,?_,hmo⟩
 ·intro k k' c c' l l' h1 h2 h3 h4 h5
  rcases hown k c h1 with ⟨j,d,a1,_,a3⟩ | ⟨a1,a2,a3⟩<;>rcases hown k' c' h2 with ⟨j',d',b1,_,b3⟩ | ⟨b1,b2,b3⟩
  ·rw [(hσ _ _ a3).2] at h3; rw [(hσ _ _ b3).2] at h4
   have:=R1.inj j j' d d' l l' (hHc _ _ a1) (hHc _ _ b1) h3 h4 h5
   subst this
   rw [a3] at b3
   exact Option.some.inj b3
  ·rw [(hσ _ _ a3).2] at h3; rw [hmo _ b1] at h4
   exact absurd (by rw [← h5]; exact (R1.wrLt (hHc _ _ a1) rfl h3).1) (hBx k' _ l' b2 b3 rfl h4)
  ·rw [hmo _ a1] at h3; rw [(hσ _ _ b3).2] at h4
   exact absurd (by rw [h5]; exact (R1.wrLt (hHc _ _ b1) rfl h4).1) (hBx k _ l a2 a3 rfl h3)
  ·rw [hmo _ a1] at h3; rw [hmo _ b1] at h4
   exact R.inj k k' c c' l l' a3 b3 h3 h4 h5
 ·intro k c h
  rcases hown k c h with ⟨j,c',a1,rfl,a3⟩ | ⟨a1,a2,a3⟩
  ·rcases R1.blk j c' (hHc _ _ a1) with ⟨e,hn⟩ | ⟨l,cur,e,b1,b2,b3,b4,b5,b6,b7⟩
   ·exact .inl ⟨by rw [e]; rfl,by rw [(hσ _ _ a3).2]; exact hn⟩
   ·refine .inr ⟨l,cur,e,by rw [(hσ _ _ a3).2]; exact b1,hB1 _ b2,b3,b4,b5,by simpa using b6,fun i hi=>?_⟩
    rw [List.length_map] at hi
    rw [List.getElem_map]
    have hs:scA σ.length c'[i]=true:=by
     rw [hσlen]
     exact (List.all_eq_true.1 (sall j _ a1)) _ (List.getElem_mem hi)
    exact (b7 i hi).sig rd2 hσ2 hs
  ·refine (R.blk k c a3).ext rd1 hlen3 hmo (hmo k a1) fun l hl=>R1.below.block _ (hBx k _ l a2 a3 rfl hl)
 ·intro k c h
  rcases hfro k c h with ⟨j,a1,a3⟩ | ⟨a1,a2,a3⟩
  ·rcases R1.fro j c (hHc _ _ a1) with ⟨e1,e2⟩ | ⟨l,vs,e1,e2,e3,e4⟩
   ·exact .inl ⟨e1,by rw [(hσ _ _ a3).2]; exact e2⟩
   ·exact .inr ⟨l,vs,by rw [(hσ _ _ a3).2]; exact e1,hOK _ e2,e3,fun i hi=>⟨(e4 i hi).1,rd2 _ _ (e4 i hi).2⟩⟩
  ·rcases R.fro k c a3 with ⟨e1,e2⟩ | ⟨l,vs,e1,e2,e3,e4⟩
   ·exact .inl ⟨e1,by rw [hmo k a1]; exact e2⟩
   ·exact .inr ⟨l,vs,by rw [hmo k a1]; exact e1,ho1 _ e2,e3,fun i hi=>⟨hcell _ _ _ e2 (e4 i hi).1,rd1 _ _ (e4 i hi).2⟩⟩
 ·exact (R.slot t).ext rd1 hlen3 hmo
 ·intro k kk d vv h
  rcases hmps k kk d vv h with ⟨j,a1,a3⟩ | ⟨a1,a2,a3⟩
  ·obtain ⟨l,ar,clk,vs,b1,b2,b3,b4,b5,b6,b7⟩:=R1.mp.1 j kk d vv (hHc _ _ a1)
   exact ⟨l,ar,clk,vs,by rw [(hσ _ _ a3).2]; exact b1,hB1 _ b2,b3,b4,b5,b6,fun z hz=>rd2 _ _ (b7 z hz)⟩
  ·obtain ⟨l,ar,clk,vs,b1,b2,b3,b4,b5,b6,b7⟩:=R.mp.1 k kk d vv a3
   exact ⟨l,ar,clk,vs,by rw [hmo k a1]; exact b1,b2,by rw [R1.below.block _ (hBx k _ l a2 a3 rfl b1)]; exact b3,b4,b5,b6,fun z hz=>rd1 _ _ (b7 z hz)⟩
 ·intro k k' kk d vv kk' d' v' l l' h1 h2 h3 h4 h5
  rcases hmps k kk d vv h1 with ⟨j,a1,a3⟩ | ⟨a1,a2,a3⟩<;>rcases hmps k' kk' d' v' h2 with ⟨j',b1,b3⟩ | ⟨b1,b2,b3⟩
  ·rw [(hσ _ _ a3).2] at h3; rw [(hσ _ _ b3).2] at h4
   have:=R1.mp.2.1 _ _ _ _ _ _ _ _ _ _ (hHc _ _ a1) (hHc _ _ b1) h3 h4 h5
   subst this
   rw [a3] at b3
   exact Option.some.inj b3
  ·rw [(hσ _ _ a3).2] at h3; rw [hmo _ b1] at h4
   exact absurd (by rw [← h5]; exact (R1.wrLt (hHc _ _ a1) rfl h3).1) (hBx k' _ l' b2 b3 rfl h4)
  ·rw [hmo _ a1] at h3; rw [(hσ _ _ b3).2] at h4
   exact absurd (by rw [h5]; exact (R1.wrLt (hHc _ _ b1) rfl h4).1) (hBx k _ l a2 a3 rfl h3)
  ·rw [hmo _ a1] at h3; rw [hmo _ b1] at h4
   exact R.mp.2.1 _ _ _ _ _ _ _ _ _ _ a3 b3 h3 h4 h5
 ·intro k i j h
  rcases hget k _ h with ⟨j',b',h1,h2,_⟩ | ⟨a1,a2,a3⟩ | h
  ·have:=sall j' b' h1
   cases b' with
   | anc _ _=>cases this
   | _=>cases h2
  ·obtain ⟨c1,c2⟩:=R.mp.2.2.1 k i j a3
   exact ⟨by simp only; omega,by rw [hmo j c1]; exact c2⟩
  ·cases h
 ·have hlps:∀ (k:Nat) (r:Loop),H2[k]? = some (.lp r)→(∃ j:Nat,H1[j]? = some (.lp r)∧σ[j]? = some k)∨(k < s.H.length∧k ∉ ks∧s.H[k]? = some (.lp r)):=by
   intro k r h
   rcases hget k _ h with ⟨j,b',h1,h2,h3⟩ | h | h
   ·cases b' with
    | lp r'=>simp only [Blk.ren,Blk.lp.injEq] at h2; obtain rfl:=h2; exact .inl ⟨j,h1,h3⟩
    | _=>cases h2
   ·exact .inr h
   ·cases h
  constructor
  ·intro k r h
   rcases hlps k r h with ⟨j,a1,a3⟩ | ⟨a1,a2,a3⟩
   ·obtain ⟨l,b1,b2,b3⟩:=R1.mp.2.2.2.1 j r (hHc _ _ a1)
    exact ⟨l,by rw [(hσ _ _ a3).2]; exact b1,hB1 _ b2,b3⟩
   ·obtain ⟨l,b1,b2,b3⟩:=R.mp.2.2.2.1 k r a3
    exact ⟨l,by rw [hmo k a1]; exact b1,b2,by rw [R1.below.block _ (hBx k _ l a2 a3 rfl b1)]; exact b3⟩
  ·intro k k' r r' l l' h1 h2 h3 h4 h5
   rcases hlps k r h1 with ⟨j,a1,a3⟩ | ⟨a1,a2,a3⟩<;>rcases hlps k' r' h2 with ⟨j',b1,b3⟩ | ⟨b1,b2,b3⟩
   ·rw [(hσ _ _ a3).2] at h3; rw [(hσ _ _ b3).2] at h4
    have:=R1.mp.2.2.2.2 _ _ _ _ _ _ (hHc _ _ a1) (hHc _ _ b1) h3 h4 h5
    subst this
    rw [a3] at b3
    exact Option.some.inj b3
   ·rw [(hσ _ _ a3).2] at h3; rw [hmo _ b1] at h4
    exact absurd (by rw [← h5]; exact (R1.wrLt (hHc _ _ a1) rfl h3).1) (hBx k' _ l' b2 b3 rfl h4)
   ·rw [hmo _ a1] at h3; rw [(hσ _ _ b3).2] at h4
    exact absurd (by rw [h5]; exact (R1.wrLt (hHc _ _ b1) rfl h4).1) (hBx k _ l a2 a3 rfl h3)
   ·rw [hmo _ a1] at h3; rw [hmo _ b1] at h4
    exact R.mp.2.2.2.2 _ _ _ _ _ _ a3 b3 h3 h4 h5
 ·have:=R1.slot 0
  exact AVal.sig rd2 hσ2 this (by rw [hσlen]; exact s1)

theorem kills_nil (H:Heap):kills H []=H:=rfl
theorem Rel.joinM (R:Rel C m s tmps w) {ks:List Nat} {H0 H1:Heap} {r:AV} {w' : World} {v:Value} {m' : Map} (hle:LeH ks s.H ks H0) (hks:∀ k∈ks,k < s.H.length) (R1:Rel (subC C m s.H ks H0 w) m' ⟨1,[(0,r)],H1++ancs 0 H0.length⟩ #[v] w') (hsc:scM r H0 H1=true) :
  ∃ m2,Rel C m2 { s with H:=putM s.H ks (H1.map (Blk.ren (ks++List.range' s.H.length (H1.length - ks.length)))) } tmps w' ∧
   AVal (Reads (OK C m2 (putM s.H ks (H1.map (Blk.ren (ks++List.range' s.H.length (H1.length - ks.length))))) w') w') m2 (putM s.H ks (H1.map (Blk.ren (ks++List.range' s.H.length (H1.length - ks.length))))) (Go.Pv.ren (ks++List.range' s.H.length (H1.length - ks.length)) r) v:=by
 have g1:=(hle.get).1
 have h:=R.joinQ (q:=H0.length) hle hks R1 (by
  unfold scM at hsc
  unfold scQ
  rw [Bool.and_eq_true,Bool.and_eq_true,Bool.and_eq_true,Bool.and_eq_true] at hsc
  obtain ⟨⟨⟨⟨s1,s2⟩,s3⟩,s4⟩,s5⟩:=hsc
  rw [s1,s2,s3,s5,List.take_length,s4,List.drop_length]; simp)
 rw [← g1,List.take_length,List.drop_length,kills_nil] at h
 obtain ⟨m2,h1,h2,_⟩:=h
 exact ⟨m2,h1,h2⟩

/-! ### The call -/

def argM1 (H:Heap) (ks:List Nat) (x a:AV):Prop:=
 match a with
 | .p pv=>(match peekG H x with | some (p,pv',true)=>p∧pv' = pv | _=>False)
 | a=>x=Go.Pv.ren ks a∧scA ks.length a=true

def argsM (H:Heap) (ks:List Nat):List AV→List AV→Prop
 | x :: xs,a :: avs=>argM1 H ks x a∧argsM H ks xs avs
 | [],[]=>True
 | _,_=>False

theorem argsM_val (R:Rel C m s tmps w) {rd' : PV→Value→Prop} {ks:List Nat} {H0:Heap} (h1:∀ p v,Reads (OK C m s.H w) w p v→rd' p v) (hl:H0.length=ks.length):∀ (X avs:List AV) (f:Nat→Value),argsM s.H ks X avs→(∀ i (h:i < X.length),AVal (Reads (OK C m s.H w) w) m s.H X[i] (f i)) →
  avs.length=X.length∧∀ i (h:i < avs.length),AVal rd' (mren m ks) H0 avs[i] (f i)
 | [],[],f,_,_=>⟨rfl,fun i h=>by simp at h⟩
 | x :: xs,a :: avs,f,h,hv=>by
  obtain ⟨k1,k2⟩:=argsM_val R h1 hl xs avs (fun i=>f (i + 1)) h.2 fun i hi=>by have:=hv (i + 1) (by simp; omega); rwa [List.getElem_cons_succ] at this
  refine ⟨by simp [k1],fun i hi=>?_⟩
  cases i with
  | succ i=>simpa using k2 i (by simpa using hi)
  | zero =>
   have hx:=hv 0 (by simp)
   simp only [List.getElem_cons_zero] at hx ⊢
   have h0:=h.1
   unfold argM1 at h0
   split at h0
   ·rename_i pv
    split at h0
    ·rename_i p pv' hp
     obtain ⟨g1,rfl⟩:=h0
     exact .p _ _ (h1 _ _ ((peekG_val R hx hp g1).2 rfl))
    ·exact h0.elim
   ·obtain ⟨rfl,hsc⟩:=h0
    exact hx.unren h1 hl hsc
 | [],_ :: _,_,h,_=>h.elim
 | _ :: _,[],_,h,_=>h.elim

theorem call_doesM {o:Oper} {fo:Operand} {args:Array Operand} {ts:Array TypeId} (ho:o.op = .call { callee:=.value fo,args:=args,argTypes:=ts }) {g:FuncId} {cap:List PV} (hfo:s.ev fo = .p (.fn g cap)) {ks:List Nat} {avs:List AV} {H0 H1:Heap} {r:AV}
  (hc:FnM P g avs H0 r H1) (hargs:argsM s.H ks (args.toList.map s.ev++cap.map .p) avs) (hle:LeH ks s.H ks H0) (hnd:ks.Nodup) (hks:ks.all (fun k=>decide (k < s.H.length))=true) (hsc:scM r H0 H1=true) :
  DoesW P o s (Go.Pv.ren (ks++List.range' s.H.length (H1.length - ks.length)) r) (putM s.H ks (H1.map (Blk.ren (ks++List.range' s.H.length (H1.length - ks.length))))):=by
 intro C m a w K Q R hK
 have hks' : ∀ k∈ks,k < s.H.length:=fun k hk=>by simpa using (List.all_eq_true.1 hks) k hk
 have hfv:=R.ev fo
 rw [hfo] at hfv
 generalize hfe:a.eval fo=fv at hfv
 have hfv:=hfv.p_inv
 cases hfv with
 | fn _ _ vs hcl hcr =>
  obtain ⟨⟨fn,hfn,hnm,hbd⟩,hcalls⟩:=hc
  have hrun:(execOp a.eval o).run P w = .ok (.enter g (args.map a.eval++vs)) w:=by
   have hnm' : ¬ fn.name = "runtime.NumGoroutine":=by simpa using hnm
   have hbd' : ¬ fn.body=none:=by intro e; rw [e] at hbd; simp at hbd
   simp [execOp,ho,resolve,hfe,Deferred.ofValue,invoke,callFunc,hfn,hnm',hbd']
  refine opR_of_wp (by first|rfl|(rw [ho]; rfl)) ?_
  unfold Oper.wp
  rw [hrun]
  simp only [Oper.upon]
  obtain ⟨g1,g2⟩:=hle.get
  have ho1:∀ b,OK C m s.H w b→OK (subC C m s.H ks H0 w) (mren m ks) H0 w b:=by
   refine fun b h=>⟨.inl h,h.2.1,fun k c l hk hl=>?_⟩
   obtain ⟨k',d,a1,a2,_⟩:=LeH.own g2 k c hk
   simp only [mren,a1,Option.bind_some] at hl
   exact h.2.2 k' _ l a2 hl
  obtain ⟨e1,e2⟩:=argsM_val R (rd':=Reads (OK (subC C m s.H ks H0 w) (mren m ks) H0 w) w) (H0:=H0) (fun p v h=>h.mono ho1) g1.symm _ avs (fun i=>(args.map a.eval++vs).getD i undef) hargs fun i hi=>by
   simp only [List.length_append,List.length_map,Array.length_toList] at hi
   by_cases hip:i < args.size
   ·rw [List.getElem_append_left (by simpa using hip)]
    simp only [Array.getD_eq_getD_getElem?]
    rw [Array.getElem?_append_left (by simpa using hip)]
    have:=R.ev args[i]
    simpa [Array.getElem?_eq_getElem hip] using this
   ·rw [List.getElem_append_right (by simp; omega)]
    simp only [Array.getD_eq_getD_getElem?]
    rw [Array.getElem?_append_right (by simp; omega)]
    simp only [List.getElem_map,List.length_map,Array.length_toList,Array.size_map]
    have:=hcr (i - args.size) (by omega)
    rw [Array.getD_eq_getD_getElem?] at this
    exact .p _ _ this
  have hsz:(args.map a.eval++vs).size=avs.length:=by
   rw [e1]; simp; omega
  have s5:H0.all notAnc=true:=by
   unfold scM at hsc
   rw [Bool.and_eq_true] at hsc
   exact hsc.2
  have R0:Rel (subC C m s.H ks H0 w) (mren m ks) ⟨avs.length,entA 0 avs,H0⟩ (args.map a.eval++vs) w:=by
   refine R.weakenC (s1:=⟨avs.length,entA 0 avs,H0⟩) hsz hnd hle ho1 (BelowP.refl _ _) (fun b h=>.inl h) (fun k b l h hw hl _=>.inr ⟨k,b,l,h,hw,hl,rfl⟩) (fun k i j h=>?_) fun t=>?_
   ·exact absurd rfl (notAnc_spec ((List.all_eq_true.1 s5) _ (List.mem_of_getElem? h)) i j)
   ·unfold St.get
    simp only
    rw [entA_lk,if_pos (Nat.zero_le _),Nat.sub_zero]
    by_cases ht:t < avs.length
    ·have:=e2 t ht
     simpa [List.getD,List.getElem?_eq_getElem ht] using this
    ·rw [List.getD_eq_getElem?_getD,List.getElem?_eq_none (by omega)]
     exact .dead _
  have R0':=R0.addAnc (n:=H0.length) (Nat.le_refl _) fun i _=>rfl
  refine (hcalls _ _ w _ R0').mono fun e w' ⟨v,m',he,R1⟩=>?_
  subst he
  obtain ⟨m2,R2,hv⟩:=R.joinM hle hks' R1 hsc
  exact hK v m2 w' R2 hv

/-- THE WORD OF THE WALK: a call that is lent blocks. -/
theorem runs_callM {all:Array Oper} {rest:List Oper} {K:St→Prop} {dst:Option Tmp} {ty:TypeId} {pos:String} {aft:Array Edge} {gd:Option (Nat × Bool)} {fo:Operand} {args:Array Operand} {ts:Array TypeId} {g:FuncId} {avs:List AV} {H0 H1:Heap} {r:AV} (ks:List Nat)
  (hc:FnM P g avs H0 r H1) {cap:List PV} (hfo:s.ev fo = .p (.fn g cap)) (hg:guardA all s { dst:=dst,op:=.call { callee:=.value fo,args:=args,argTypes:=ts },type:=ty,pos:=pos,after:=aft,guard:=gd } = some true)
  (hargs:argsM s.H ks (args.toList.map s.ev++cap.map .p) avs) (hle:LeH ks s.H ks H0) (hnd:ks.Nodup) (hks:ks.all (fun k=>decide (k < s.H.length))=true) (hsc:scM r H0 H1=true) (hd:dstOk s dst)
  (h:Runs P false all rest K (({ s with H:=putM s.H ks (H1.map (Blk.ren (ks++List.range' s.H.length (H1.length - ks.length)))) } : St).put dst (Go.Pv.ren (ks++List.range' s.H.length (H1.length - ks.length)) r))) :
  Runs P false all ({ dst:=dst,op:=.call { callee:=.value fo,args:=args,argTypes:=ts },type:=ty,pos:=pos,after:=aft,guard:=gd } :: rest) K s:=by
 obtain ⟨s',hr,hK⟩:=h
 exact ⟨s',.cons (.op s _ _ hg (dstOk_spec hd) (call_doesM rfl hfo hc hargs hle hnd hks hsc) fun h=>by cases h) hr,hK⟩

/-! ### How much stands in a map -/

end

end Go.Pv

/-
  A loop over a map of one's own: its entries come in whatever order. Conditions: none; a library text.
-/
set_option linter.all false
namespace Go.Pv
open Go.RowKit

section
variable {P:Program} {C:Ctx} {m:Map} {s:St} {tmps:Array Value} {w:World}

/-- The frame where some blocks are left alone. -/
def holdC (C:Ctx) (X:Nat→Prop) (w:World):Ctx:=⟨fun b=>C.okA b∨C.B b,fun b=>C.B b∧¬ X b,w,C.anc⟩

theorem holdC_ok (C:Ctx) (X:Nat→Prop) (w0:World) (m:Map) (H:Heap) (w:World):OK (holdC C X w0) m H w=OK C m H w:=by
 funext b
 unfold OK holdC
 refine propext ⟨fun h=>⟨?_,h.2⟩,fun h=>⟨.inl h.1,h.2⟩⟩
 rcases h.1 with h1 | h1
 ·exact h1
 ·exact .inr h1.1

theorem Rel.hold (R:Rel C m s tmps w) (X:Nat→Prop) (hX:∀ b,X b→b < w.heap.size∧∀ cur e sh,w.heap[b]? ≠ some (.cells cur e sh))
  (hmp:∀ (k:Nat) (kk:IntKind) (d:Int→Bool) (v:Int→PV) (l:Loc),s.H[k]? = some (Blk.mp kk d v)→m k=some l→¬ X l.g) (hlp:∀ b,X b→∀ rr,w.heap[b]? ≠ some (.loop rr)):Rel (holdC C X w) m s tmps w:=by
 have e:=holdC_ok C X w m s.H w
 refine ⟨by rw [e]; exact R.laid,BelowP.refl _ _,fun b hb=>⟨R.base b hb,fun hx=>by have:=(hX b hx).1; omega⟩,R.size,R.inj,fun k c h=>?_,by rw [e]; exact R.fro,by rw [e]; exact R.slot,fun k kk d v h=>?_,R.mp.2.1,R.mp.2.2.1,fun k rr h=>(let ⟨l,a1,a2,a3⟩:=R.mp.2.2.2.1 k rr h; ⟨l,a1,⟨a2,fun hx=>hlp _ hx _ a3⟩,a3⟩),R.mp.2.2.2.2⟩
 ·rw [e]
  rcases R.blk k c h with h1 | ⟨l,cur,ee,a1,a2,a3,a4⟩
  ·exact .inl h1
  ·exact .inr ⟨l,cur,ee,a1,⟨a2,fun hx=>(hX _ hx).2 _ _ _ a3⟩,a3,a4⟩
 ·rw [e]
  obtain ⟨l,ar,clk,vs,a1,a2,a3⟩:=R.mp.1 k kk d v h
  exact ⟨l,ar,clk,vs,a1,⟨a2,hmp k kk d v l h a1⟩,a3⟩

theorem BelowP.monoB {B B' : Nat→Prop} {a b:World} (h:BelowP B a b) (hB:∀ k,B k→B' k):BelowP B' a b:=
 ⟨h.os,h.tape,h.output,h.size,fun k hk=>h.block k fun hh=>hk (hB k hh),h.dr⟩

theorem Rel.unhold {X:Nat→Prop} {w0:World} (R:Rel (holdC C X w0) m s tmps w) (hb:BelowP C.B C.w0 w0):Rel C m s tmps w:=by
 have e:=holdC_ok C X w0 m s.H w
 have hB:∀ b,(holdC C X w0).B b→C.B b:=fun b h=>h.1
 refine ⟨by rw [← e]; exact R.laid,hb.trans (R.below.monoB hB),fun b h=>hB b (R.base b h),R.size,R.inj,fun k c h=>?_,by rw [← e]; exact R.fro,by rw [← e]; exact R.slot,fun k kk d v h=>?_,R.mp.2.1,R.mp.2.2.1,fun k rr h=>(let ⟨l,a1,a2,a3⟩:=R.mp.2.2.2.1 k rr h; ⟨l,a1,hB _ a2,a3⟩),R.mp.2.2.2.2⟩
 ·rw [← e]
  rcases R.blk k c h with h1 | ⟨l,cur,ee,a1,a2,a3,a4⟩
  ·exact .inl h1
  ·exact .inr ⟨l,cur,ee,a1,hB _ a2,a3,a4⟩
 ·rw [← e]
  obtain ⟨l,ar,clk,vs,a1,a2,a3⟩:=R.mp.1 k kk d v h
  exact ⟨l,ar,clk,vs,a1,hB _ a2,a3⟩

/-! ### The loop -/

end
end Go.Pv

/-
  Steps of a region beside those that are evaluated: literal rows as one's own, entries of literal maps. Conditions: none; a library text.
-/
set_option linter.all false

namespace Go.Pv
open Go.RowKit
section
variable {P:Program} {T:TypeId→Option TI} {s:St}
/-- A literal row, as a block of the call's own. -/
theorem buildOwn_does (hT:∀ t ti,T t=some ti→tiOf P t=some ti) {o:Oper} {t:TypeId} {n:Nat} {parts:Array (Nat × Operand)} (ho:o.op = .buildSlice t n parts) {ti te:TI} (ht:T t=some ti) {e:TypeId} (hk:ti.kind = .slice e) (hte:T e=some te) (hsz:te.size=1) (hzl:te.zero.length=1)
  {p:Prop} {l:List PV} (hp:partsA 1 0 (parts.toList.map fun q=>(q.1,s.ev q.2))=some (p,l)) (hvc:p) (hl:l.length=n) (hn:n≤16777216) (hone:l.all PV.one=true):DoesW P o s (.sl s.H.length 0 n) (s.H++[.own (opl l)]):=by
 intro C m a w K Q R hK
 have hu:=ti_slice (hT _ _ ht) hk
 obtain ⟨i,d,z,h1,h2,h3,h4,h5,h6,h7,h8⟩:=tiOf_parts (hT _ _ hte)
 have key:∀ z0:Array Value,∃ cs',(∀ x∈l,x.cells.length=1)∧Instr.fill (fun i=>some (i * 1,1)) ((Array.range (n * 1)).map (z0[· % z0.size]!)) (parts.toList.map fun q=>(q.1,a.eval q.2))=some cs'∧cs'.size=n * 1 ∧
   ∀ c (h:c < (flat l).length),Reads (OK C m s.H w) w (flat l)[c] (cs'.getD c undef):=by
  intro z0
  obtain ⟨k1,cs',k2,k3,_,k5⟩:=partsA_run R 1 parts.toList 0 (cs:=(Array.range (n * 1)).map (z0[· % z0.size]!)) hp hvc (by simp [hl])
  exact ⟨cs',k1,k2,by rw [k3]; simp,fun c hc=>by have:=k5 c hc; rwa [Nat.zero_mul,Nat.zero_add] at this⟩
 obtain ⟨cs',k1,k2,k3,k5⟩:=key (if n * 1=0 then #[] else z.cells)
 have hss:=ti_size (hT _ _ hte) w
 rw [hsz] at hss
 have hfl0:=flat_length_eq 1 l k1
 have hfl:flat l=l:=flat_all_one hone
 have hrun:(execOp a.eval o).run P w = .ok (.value (.slice (some ⟨w.heap.size,0,none⟩) n n)) (w.alloc (.cells cs' e)):=by
  have hpt:(parts.map fun q=>(q.1,a.eval q.2)).toList=parts.toList.map fun q=>(q.1,a.eval q.2):=by simp
  have hne:¬ (n * 1 > 2 ^ 24):=by omega
  by_cases hz:n * 1=0
  ·rw [if_pos hz] at k2
   simp only [execOp,ho,Instr.buildSlice,Sem.run_bind,run_underlying hu,Result.andThen_ok,hss,Sem.run_ite,hz,if_true,Sem.run_pure,newRow] at k2 ⊢
   simp only [hpt,k2,Sem.run_bind,run_newObj,Result.andThen_ok,Sem.run_pure]
   rfl
  ·rw [if_neg hz] at k2
   simp only [execOp,ho,Instr.buildSlice,Sem.run_bind,run_underlying hu,Result.andThen_ok,hss,Sem.run_ite,hne,if_false,hz,zeroValue,typeInfo,run_program,h1,h3,Sem.run_pure,newRow] at k2 ⊢
   simp only [hpt,k2,Sem.run_bind,run_newObj,Result.andThen_ok,Sem.run_pure]
   rfl
 have hrel:=R.newBlk (below_alloc _) (cur:=cs') (e:=e) (heap_alloc_new w _) (by rw [k3]; unfold maxLen; omega) (c:=opl l) (by rw [opl_length,k3]; omega) (by
  intro j hj
  rw [opl_length] at hj
  have:=k5 j (by rw [hfl]; exact hj)
  simp only [hfl] at this
  simp only [opl,List.getElem_map]
  exact .p _ _ this)
 refine opR_of_wp (by first|rfl|(rw [ho]; rfl)) ?_
 unfold Oper.wp
 rw [hrun]
 exact hK _ _ _ hrel (.sl _ _ _ _ (by simp) <| .inr ⟨⟨w.heap.size,0,cs'.size⟩,n,by simp [mput],by simp,Nat.le_refl _,by simp only; omega⟩)

section
variable {C:Ctx} {m:Map} {tmps:Array Value} {w:World}
end
end
end Go.Pv

/-
  Loops over a function: rounds as values, the statement, who calls yield. Conditions: none; a library text.
-/
set_option linter.all false
namespace Go.Pv
open Go.RowKit

section
variable {P:Program} {T:TypeId→Option TI} {C:Ctx} {m:Map} {s:St} {tmps:Array Value} {w:World}

/-- A block that is none of cells turns. -/
theorem Rel.setRaw (R:Rel C m s tmps w) {g:Nat} {o' : Obj} {H' : Heap} (hB:C.B g) (hnc:∀ cur e sh,w.heap[g]? ≠ some (.cells cur e sh)) (hlen:H'.length=s.H.length)
  (hmut:∀ (k:Nat) (c:List AV),H'[k]? = some (.own c)→s.H[k]? = some (.own c)) (hfro:∀ (k:Nat) (c:List PV),H'[k]? = some (.fro c)→s.H[k]? = some (.fro c))
  (hmp:∀ (k:Nat) (kk:IntKind) (d:Int→Bool) (v:Int→PV),H'[k]? = some (Blk.mp kk d v)→s.H[k]? = some (Blk.mp kk d v)∧∀ l,m k=some l→l.g ≠ g)
  (hanc:∀ (k i j:Nat),H'[k]? = some (Blk.anc i j)→s.H[k]? = some (Blk.anc i j)) (hlp:LpAll C.B (w.putObj g o') m H'):Rel C m { s with H:=H' } tmps (w.putObj g o'):=by
 have hh:∀ b,b ≠ g→(w.putObj g o').heap[b]? = w.heap[b]?:=fun b hb=>World.putObj_heap_other hb
 have hsz:(w.putObj g o').heap.size=w.heap.size:=World.putObj_size
 have hcell:∀ (b o:Nat) (x:Value),w.cell? ⟨b,o,none⟩=some x→(w.putObj g o').cell? ⟨b,o,none⟩=some x:=fun b o x h=>by
  by_cases eb:b=g
  ·subst eb
   exfalso
   unfold World.cell? at h
   split at h
   ·rename_i hh; exact hnc _ _ _ hh
   ·cases h
  ·rw [World.cell?_of_block (w:=w) (hh b eb)]; exact h
 have hok:∀ b,OK C m s.H w b→OK C m H' (w.putObj g o') b:=fun b h=>⟨h.1,by rw [hsz]; exact h.2.1,fun k c l hk hl=>h.2.2 k c l (hmut k c hk) hl⟩
 have rdx:∀ p x,Reads (OK C m s.H w) w p x→Reads (OK C m H' (w.putObj g o')) (w.putObj g o') p x:=fun p x h=>h.extc hok fun b o y _ hc=>hcell b o y hc
 have hle:s.H.length≤H'.length:=by omega
 refine ⟨R.laid.ext rdx,R.below.trans ⟨rfl,rfl,rfl,by rw [hsz]; exact Nat.le_refl _,fun b hb=>hh b (fun e=>hb (by rw [e]; exact hB)),Nat.le_refl _⟩,by rw [hsz]; exact R.base,R.size,
  fun k k' c c' l l' h1 h2=>R.inj k k' c c' l l' (hmut k c h1) (hmut k' c' h2),fun k c h=>?_,fun k c h=>?_,fun t=>(R.slot t).ext rdx hle fun _ _=>rfl,fun k kk d v h=>?_,
  fun k k' kk d v kk' d' v' l l' h1 h2=>R.mp.2.1 k k' kk d v kk' d' v' l l' (hmp _ _ _ _ h1).1 (hmp _ _ _ _ h2).1,fun k i j h=>?_,hlp⟩
 ·have hb:=R.blk k c (hmut k c h)
  refine hb.ext rdx hle (fun _ _=>rfl) rfl fun l hl=>hh _ fun e=>?_
  rcases hb with ⟨_,hn⟩ | ⟨l2,cur,ee,a1,a2,a3,_⟩
  ·rw [hl] at hn; cases hn
  ·rw [hl] at a1; cases a1
   rw [e] at a3
   exact hnc _ _ _ a3
 ·rcases R.fro k c (hfro k c h) with h' | ⟨l2,vs2,b1,b2,b3,b4⟩
  ·exact .inl h'
  ·exact .inr ⟨l2,vs2,b1,hok _ b2,b3,fun i hi=>⟨hcell _ _ _ (b4 i hi).1,rdx _ _ (b4 i hi).2⟩⟩
 ·obtain ⟨h1,h2⟩:=hmp k kk d v h
  obtain ⟨l,ar,clk,vs,a1,a2,a3,a4,a5,a6,a7⟩:=R.mp.1 k kk d v h1
  exact ⟨l,ar,clk,vs,a1,a2,(hh _ (h2 l a1)).trans a3,a4,a5,a6,fun z hz=>rdx _ _ (a7 z hz)⟩
 ·obtain ⟨a1,a2⟩:=R.mp.2.2.1 k i j (hanc k i j h)
  exact ⟨by rw [hlen]; exact a1,a2⟩

/-- A block for deferred calls turns. -/
theorem Rel.setDef (R:Rel C m s tmps w) {g:Nat} {o o' : Option (List Deferred)} (hB:C.B g) (ho:w.heap[g]? = some (.deferred o)):Rel C m s tmps (w.putObj g (.deferred o')):=by
 refine R.setRaw (H':=s.H) hB (fun _ _ _ h=>by rw [ho] at h; cases h) rfl (fun _ _ h=>h) (fun _ _ h=>h) (fun k kk d v h=>⟨h,fun l hl e=>?_⟩) (fun _ _ _ h=>h) ?_
 ·obtain ⟨l2,ar,clk,vs,a1,a2,a3,_⟩:=R.mp.1 k kk d v h
  rw [hl] at a1; cases a1
  rw [e,ho] at a3; cases a3
 ·refine R.mp.2.2.2.ext id (fun _ _ h=>⟨h,rfl⟩) (fun _ _ _ _ _ _ h=>h) (fun k r l h hl h3=>World.putObj_heap_other fun e=>?_) fun _ _ _ _ _ h=>h
  rw [e,ho] at h3; cases h3

/-- A loop's record turns. -/
theorem Rel.setLp (R:Rel C m s tmps w) {κ:Nat} {r r' : Loop} (hκ:s.H[κ]? = some (.lp r)) {l:Loc} (hl:m κ=some l):Rel C m { s with H:=hset s.H κ (.lp r') } tmps (w.putObj l.g (.loop r')):=by
 obtain ⟨l',a1,a2,a3⟩:=R.mp.2.2.2.1 κ r hκ
 rw [hl] at a1; cases a1
 have hkl:κ < s.H.length:=(List.getElem?_eq_some_iff.1 hκ).1
 have hlt:l.g < w.heap.size:=(Array.getElem?_eq_some_iff.1 a3).1
 have hget:∀ (j:Nat) (b:Blk),(hset s.H κ (.lp r'))[j]? = some b→(j=κ∧b = .lp r')∨(j ≠ κ∧s.H[j]? = some b):=by
  intro j b h
  rw [hset_get] at h
  by_cases e:j=κ
  ·rw [if_pos ⟨e,hkl⟩] at h; exact .inl ⟨e,(Option.some.inj h).symm⟩
  ·rw [if_neg (by simp [e])] at h; exact .inr ⟨e,h⟩
 refine R.setRaw (H':=hset s.H κ (.lp r')) a2 (fun _ _ _ h=>by rw [a3] at h; cases h) (hset_length _ _ _) (fun k c h=>?_) (fun k c h=>?_) (fun k kk d v h=>?_) (fun k i j h=>?_) ⟨fun k rr h=>?_,fun k k' r1 r2 l1 l2 h1 h2 h3 h4 h5=>?_⟩
 ·rcases hget k _ h with ⟨_,e⟩ | ⟨_,h⟩
  ·cases e
  ·exact h
 ·rcases hget k _ h with ⟨_,e⟩ | ⟨_,h⟩
  ·cases e
  ·exact h
 ·rcases hget k _ h with ⟨_,e⟩ | ⟨_,h⟩
  ·cases e
  ·refine ⟨h,fun l2 hl2 e=>?_⟩
   obtain ⟨l3,ar,clk,vs,b1,b2,b3,_⟩:=R.mp.1 k kk d v h
   rw [hl2] at b1; cases b1
   rw [e,a3] at b3; cases b3
 ·rcases hget k _ h with ⟨_,e⟩ | ⟨_,h⟩
  ·cases e
  ·exact h
 ·rcases hget k _ h with ⟨rfl,e⟩ | ⟨hne,h⟩
  ·cases e
   exact ⟨l,hl,a2,World.putObj_heap_same hlt⟩
  ·obtain ⟨l2,b1,b2,b3⟩:=R.mp.2.2.2.1 k rr h
   refine ⟨l2,b1,b2,(World.putObj_heap_other fun e=>hne ?_).trans b3⟩
   exact R.mp.2.2.2.2 _ _ _ _ _ _ h hκ b1 hl e
 ·have g:∀ (j:Nat) (rr:Loop),(hset s.H κ (.lp r'))[j]? = some (Blk.lp rr)→∃ r0,s.H[j]? = some (Blk.lp r0):=by
   intro j rr h
   rcases hget j _ h with ⟨rfl,_⟩ | ⟨_,h⟩
   ·exact ⟨_,hκ⟩
   ·exact ⟨_,h⟩
  obtain ⟨_,c1⟩:=g _ _ h1
  obtain ⟨_,c2⟩:=g _ _ h2
  exact R.mp.2.2.2.2 _ _ _ _ _ _ c1 c2 h3 h4 h5

/-- A loop's record is laid: it is a block of the state's. -/
theorem Rel.addLp (R:Rel C m s tmps w) {g:Nat} {r:Loop} (hB:C.B g) (hg:w.heap[g]? = some (.loop r)) (hfr:∀ (k:Nat) (rr:Loop) (l:Loc),s.H[k]? = some (.lp rr)→m k=some l→l.g ≠ g) :
  Rel C (mput m s.H.length (some ⟨g,0,0⟩)) { s with H:=s.H++[.lp r] } tmps w:=by
 have hm:∀ k,k < s.H.length→mput m s.H.length (some ⟨g,0,0⟩) k=m k:=fun k hk=>by simp [mput,show k ≠ s.H.length by omega]
 have hmn:mput m s.H.length (some ⟨g,0,0⟩) s.H.length=some ⟨g,0,0⟩:=by simp [mput]
 have own:∀ (k:Nat) (b:Blk),(s.H++[Blk.lp r])[k]? = some b→(k < s.H.length∧s.H[k]? = some b)∨(k=s.H.length∧Blk.lp r=b):=fun k b h=>getElem?_snoc_cases h
 have old:∀ (k:Nat) (b:Blk),(∀ rr,b ≠ .lp rr)→(s.H++[Blk.lp r])[k]? = some b→k < s.H.length∧s.H[k]? = some b:=fun k b hb h=>by
  rcases own k b h with h | ⟨_,e⟩
  ·exact h
  ·exact absurd e.symm (hb r)
 have hok:∀ b,OK C m s.H w b→OK C (mput m s.H.length (some ⟨g,0,0⟩)) (s.H++[Blk.lp r]) w b:=fun b h=>⟨h.1,h.2.1,fun k c l hk hl=>by
  obtain ⟨h1,h2⟩:=old k _ (fun _ h=>by cases h) hk
  rw [hm k h1] at hl
  exact h.2.2 k c l h2 hl⟩
 have rd:∀ p x,Reads (OK C m s.H w) w p x→Reads (OK C (mput m s.H.length (some ⟨g,0,0⟩)) (s.H++[Blk.lp r]) w) w p x:=fun p x h=>h.mono hok
 have hlen:s.H.length≤(s.H++[Blk.lp r]).length:=by simp
 refine ⟨R.laid.ext rd,R.below,R.base,R.size,fun k k' c c' l l' h1 h2 h3 h4 h5=>?_,fun k c h=>?_,fun k c h=>?_,fun t=>(R.slot t).ext rd hlen hm,fun k kk d v h=>?_,fun k k' kk d v kk' d' v' l l' h1 h2 h3 h4 h5=>?_,fun k i j h=>?_,fun k rr h=>?_,fun k k' r1 r2 l1 l2 h1 h2 h3 h4 h5=>?_⟩
 ·obtain ⟨a1,a2⟩:=old k _ (fun _ h=>by cases h) h1
  obtain ⟨b1,b2⟩:=old k' _ (fun _ h=>by cases h) h2
  rw [hm k a1] at h3; rw [hm k' b1] at h4
  exact R.inj k k' c c' l l' a2 b2 h3 h4 h5
 ·obtain ⟨a1,a2⟩:=old k _ (fun _ h=>by cases h) h
  exact (R.blk k c a2).ext rd hlen hm (hm k a1) fun _ _=>rfl
 ·obtain ⟨a1,a2⟩:=old k _ (fun _ h=>by cases h) h
  exact (R.fro k c a2).ext hok (fun _ _=>rfl) (hm k a1)
 ·obtain ⟨a1,a2⟩:=old k _ (fun _ h=>by cases h) h
  exact (R.mp.1 k kk d v a2).ext hok (fun _ _=>rfl) (hm k a1) fun _ _=>rfl
 ·obtain ⟨a1,a2⟩:=old k _ (fun _ h=>by cases h) h1
  obtain ⟨b1,b2⟩:=old k' _ (fun _ h=>by cases h) h2
  rw [hm k a1] at h3; rw [hm k' b1] at h4
  exact R.mp.2.1 _ _ _ _ _ _ _ _ _ _ a2 b2 h3 h4 h5
 ·obtain ⟨a1,a2⟩:=old k _ (fun _ h=>by cases h) h
  obtain ⟨c1,c2⟩:=R.mp.2.2.1 k i j a2
  exact ⟨by simp; omega,by rw [hm j c1]; exact c2⟩
 ·rcases own k _ h with ⟨hk,h⟩ | ⟨rfl,e⟩
  ·obtain ⟨l,b1,b2,b3⟩:=R.mp.2.2.2.1 k rr h
   exact ⟨l,(hm k hk).trans b1,b2,b3⟩
  ·cases e
   exact ⟨_,hmn,hB,hg⟩
 ·rcases own k _ h1 with ⟨hk,h1⟩ | ⟨rfl,e⟩<;>rcases own k' _ h2 with ⟨hk',h2⟩ | ⟨rfl,e'⟩
  ·rw [hm _ hk] at h3; rw [hm _ hk'] at h4
   exact R.mp.2.2.2.2 _ _ _ _ _ _ h1 h2 h3 h4 h5
  ·rw [hm _ hk] at h3; rw [hmn] at h4; cases h4
   exact absurd h5 (hfr k r1 l1 h1 h3)
  ·rw [hm _ hk'] at h4; rw [hmn] at h3; cases h3
   exact absurd h5.symm (hfr k' r2 l2 h2 h4)
  ·rfl

/-! ### Contracts where the first q blocks stay -/

def FnQ (P:Program) (q:Nat) (f:FuncId) (args:List AV) (H0:Heap) (r:AV) (H1:Heap):Prop:=
 Fun P f∧∀ (C:Ctx) (m:Map) (w:World) (vals:Array Value),Rel C m ⟨args.length,entA 0 args,H0++ancs 0 q⟩ vals w →
  Calls P f vals w fun e w'=>∃ v m',e = .returned v∧Rel C m' ⟨1,[(0,r)],H1++ancs 0 q⟩ #[v] w'

theorem fnq_of (hT:∀ t ti,T t=some ti→tiOf P t=some ti) {q:Nat} {f:FuncId} {fn:Func} {c:Code} {args:List AV} {av:AV} {H0 H1:Heap} (hf:P.funcs[f]? = some fn) (hb:fn.body=some c) (hnm:(fn.name == "runtime.NumGoroutine")=false) (hn:args.length≤fn.ntmps)
  (h:Holds P c (PostG T fn.results.toList av (H1++ancs 0 q)) ⟨fn.ntmps,entA 0 args,H0++ancs 0 q⟩):FnQ P q f args H0 av H1:=by
 refine ⟨⟨fn,hf,hnm,by rw [hb]; rfl⟩,fun C m w vals R0=>calls_of_wp hf hb (wpR_none.1 ?_)⟩
 have hsz:vals.size=args.length:=R0.size
 have R:Rel C m ⟨fn.ntmps,entA 0 args,H0++ancs 0 q⟩ (vals++Array.replicate (fn.ntmps - vals.size) undef) w:=by
  refine ⟨R0.laid,R0.below,R0.base,by simp; omega,R0.inj,R0.blk,R0.fro,fun t=>?_,R0.mp⟩
  have hs:=R0.slot t
  by_cases ht:t < vals.size
  ·rw [Array.getD_eq_getD_getElem?,Array.getElem?_append_left ht,← Array.getD_eq_getD_getElem?]
   exact hs
  ·have e:lk (entA 0 args) t = .dead:=by
    rw [entA_lk,if_pos (Nat.zero_le _),List.getD_eq_getElem?_getD,List.getElem?_eq_none (by omega)]; rfl
   unfold St.get
   simp only
   rw [e]
   exact .dead _
 refine wpR_mono (h none [] _ _ { tmps:=vals++Array.replicate (fn.ntmps - vals.size) undef,defers:=[] } w R rfl) fun e a' w' ⟨s',m',h1,h2,h3⟩=>?_
 have fini:endG T fn.results.toList av (H1++ancs 0 q) s'→a'.defers=[]∧∃ v,(results fn a'.tmps).run P w' = .ok v w'∧∃ v_1 m'',Ending.returned v = .returned v_1∧Rel C m'' ⟨1,[(0,av)],H1++ancs 0 q⟩ #[v_1] w':=by
  intro he
  unfold endG at he
  split at he
  ·rename_i p l hl
   obtain ⟨hp,π,hav,hsc,hle⟩:=he
   obtain ⟨vs,e1,e2,e3⟩:=rvsA_run hT h2 fn.results.toList hl hp
   have hv:=mkTup_val (w:=w') e2 e3
   have R':=h2.weaken hle
   rw [hav] at hv
   have hlen:(H1++ancs 0 q).length=π.length:=(hle.2.2.1.get).1.symm
   have ho:=OK.weaken (C:=C) (m:=m') (w:=w') hle.2.2.1
   have hv2:=hv.unren (fun p v h=>h.mono ho) hlen hsc
   refine ⟨h3,(if h:vs.toArray.size=1 then vs.toArray[0] else .tuple vs.toArray),?_,_,_,rfl,R'.laid,R'.below,R'.base,rfl,R'.inj,R'.blk,R'.fro,fun t=>?_,R'.mp⟩
   ·rw [results_eq,Array.mapM_eq_mapM_toList]
    simp only [Sem.run_bind,Sem.run_map]
    rw [e1]
    simp only [Result.andThen_ok]
    rfl
   ·cases t with
    | zero=>exact hv2
    | succ t=>exact .dead _
  ·exact he.elim
 cases e with
 | normal=>exact fini h1
 | ret=>exact fini h1
 | _=>exact h1.elim

/-- Who is called: with what it has captured. -/
def clA:AV→Option (FuncId × List AV)
 | .cl g l=>some (g,l)
 | .p (.fn g l)=>some (g,l.map .p)
 | _=>none

theorem clA_val {a:Act} (R:Rel C m s a.tmps w) {fo:Operand} {g:FuncId} {cap:List AV} (h:clA (s.ev fo)=some (g,cap)) :
  ∃ vs:Array Value,a.eval fo = .func (.func g) #[] vs∧vs.size=cap.length∧∀ c (h:c < cap.length),AVal (Reads (OK C m s.H w) w) m s.H cap[c] (vs.getD c undef):=by
 have hv:=R.ev fo
 generalize a.eval fo=v at hv
 unfold clA at h
 split at h
 ·rename_i g' l e
  simp only [Option.some.injEq,Prod.mk.injEq] at h
  obtain ⟨rfl,rfl⟩:=h
  rw [e] at hv
  cases hv with
  | cl _ _ vs hl hr=>exact ⟨vs,rfl,hl,hr⟩
 ·rename_i g' l e
  simp only [Option.some.injEq,Prod.mk.injEq] at h
  obtain ⟨rfl,rfl⟩:=h
  rw [e] at hv
  have hv:=hv.p_inv
  cases hv with
  | fn _ _ vs hl hr =>
   refine ⟨vs,rfl,by simpa using hl,fun c hc=>?_⟩
   rw [List.getElem_map]
   exact .p _ _ (hr c (by simpa using hc))
 ·cases h

/-- The state of who is lent blocks. -/
theorem Rel.lend (R:Rel C m s tmps w) {q:Nat} {ks:List Nat} {avs:List AV} {H0:Heap} {vals:Array Value} (hle:LeH ks s.H ks H0) (hnd:ks.Nodup) (hq:q≤H0.length) (hna:H0.all notAnc=true) (hsz:vals.size=avs.length)
  (hv:∀ t (h:t < avs.length),AVal (Reads (OK (subC C m s.H ks H0 w) (mren m ks) H0 w) w) (mren m ks) H0 avs[t] (vals.getD t undef)):Rel (subC C m s.H ks H0 w) (mren m ks) ⟨avs.length,entA 0 avs,H0++ancs 0 q⟩ vals w:=by
 obtain ⟨g1,g2⟩:=hle.get
 have ho1:∀ b,OK C m s.H w b→OK (subC C m s.H ks H0 w) (mren m ks) H0 w b:=by
  refine fun b h=>⟨.inl h,h.2.1,fun k c l hk hl=>?_⟩
  obtain ⟨k',d,a1,a2,_⟩:=LeH.own g2 k c hk
  simp only [mren,a1,Option.bind_some] at hl
  exact h.2.2 k' _ l a2 hl
 have R0:Rel (subC C m s.H ks H0 w) (mren m ks) ⟨avs.length,entA 0 avs,H0⟩ vals w:=by
  refine R.weakenC (s1:=⟨avs.length,entA 0 avs,H0⟩) hsz hnd hle ho1 (BelowP.refl _ _) (fun b h=>.inl h) (fun k b l h hw hl _=>.inr ⟨k,b,l,h,hw,hl,rfl⟩) (fun k i j h=>?_) fun t=>?_
  ·exact absurd rfl (notAnc_spec ((List.all_eq_true.1 hna) _ (List.mem_of_getElem? h)) i j)
  ·unfold St.get
   simp only
   rw [entA_lk,if_pos (Nat.zero_le _),Nat.sub_zero]
   by_cases ht:t < avs.length
   ·have:=hv t ht
    simpa [List.getD,List.getElem?_eq_getElem ht] using this
   ·rw [List.getD_eq_getElem?_getD,List.getElem?_eq_none (by omega)]
    exact .dead _
 exact R0.addAnc (n:=q) hq fun i _=>rfl

theorem lend_ok {ks:List Nat} {H0:Heap} (hle:LeH ks s.H ks H0):∀ b,OK C m s.H w b→OK (subC C m s.H ks H0 w) (mren m ks) H0 w b:=by
 obtain ⟨g1,g2⟩:=hle.get
 refine fun b h=>⟨.inl h,h.2.1,fun k c l hk hl=>?_⟩
 obtain ⟨k',d,a1,a2,_⟩:=LeH.own g2 k c hk
 simp only [mren,a1,Option.bind_some] at hl
 exact h.2.2 k' _ l a2 hl

theorem scQ_parts {q:Nat} {r:AV} {H0 H1:Heap} (h:scQ q r H0 H1=true):q≤H1.length∧q≤H0.length∧H0.all notAnc=true:=by
 unfold scQ at h
 rw [Bool.and_eq_true,Bool.and_eq_true,Bool.and_eq_true,Bool.and_eq_true,Bool.and_eq_true,Bool.and_eq_true,decide_eq_true_eq,decide_eq_true_eq] at h
 exact ⟨h.1.1.1.1.2,h.1.1.1.2,h.2⟩

theorem call_doesQ {o:Oper} {fo:Operand} {args:Array Operand} {ts:Array TypeId} (ho:o.op = .call { callee:=.value fo,args:=args,argTypes:=ts }) {g:FuncId} {cap:List AV} (hfo:clA (s.ev fo)=some (g,cap)) {q:Nat} {ks:List Nat} {avs:List AV} {H0 H1:Heap} {r:AV}
  (hc:FnQ P q g avs H0 r H1) (hargs:argsM s.H ks (args.toList.map s.ev++cap) avs) (hle:LeH ks s.H ks H0) (hnd:ks.Nodup) (hks:ks.all (fun k=>decide (k < s.H.length))=true) (hsc:scQ q r H0 H1=true) :
  DoesW P o s (Go.Pv.ren (ks.take q++List.range' s.H.length (H1.length - q)) r) (putM (kills s.H (ks.drop q)) (ks.take q) (H1.map (Blk.ren (ks.take q++List.range' s.H.length (H1.length - q))))):=by
 intro C m a w K Q R hK
 have hks' : ∀ k∈ks,k < s.H.length:=fun k hk=>by simpa using (List.all_eq_true.1 hks) k hk
 obtain ⟨vs,hfe,hcl,hcr⟩:=clA_val R hfo
 obtain ⟨⟨fn,hfn,hnm,hbd⟩,hcalls⟩:=hc
 obtain ⟨_,hq,hna⟩:=scQ_parts hsc
 have hrun:(execOp a.eval o).run P w = .ok (.enter g (args.map a.eval++vs)) w:=by
  have hnm' : ¬ fn.name = "runtime.NumGoroutine":=by simpa using hnm
  have hbd' : ¬ fn.body=none:=by intro e; rw [e] at hbd; simp at hbd
  simp [execOp,ho,resolve,hfe,Deferred.ofValue,invoke,callFunc,hfn,hnm',hbd']
 refine opR_of_wp (by rw [ho]; rfl) ?_
 unfold Oper.wp
 rw [hrun]
 simp only [Oper.upon]
 have g1:=(hle.get).1
 obtain ⟨e1,e2⟩:=argsM_val R (rd':=Reads (OK (subC C m s.H ks H0 w) (mren m ks) H0 w) w) (H0:=H0) (fun p v h=>h.mono (lend_ok hle)) g1.symm _ avs (fun i=>(args.map a.eval++vs).getD i undef) hargs fun i hi=>by
  simp only [List.length_append,List.length_map,Array.length_toList] at hi
  by_cases hip:i < args.size
  ·rw [List.getElem_append_left (by simpa using hip)]
   simp only [Array.getD_eq_getD_getElem?]
   rw [Array.getElem?_append_left (by simpa using hip)]
   have:=R.ev args[i]
   simpa [Array.getElem?_eq_getElem hip] using this
  ·rw [List.getElem_append_right (by simp; omega)]
   simp only [Array.getD_eq_getD_getElem?]
   rw [Array.getElem?_append_right (by simp; omega)]
   simp only [List.length_map,Array.length_toList,Array.size_map]
   have:=hcr (i - args.size) (by omega)
   rw [Array.getD_eq_getD_getElem?] at this
   exact this
 have hsz:(args.map a.eval++vs).size=avs.length:=by
  rw [e1]; simp; omega
 have R0':=R.lend (q:=q) hle hnd hq hna hsz e2
 refine (hcalls _ _ w _ R0').mono fun e w' ⟨v,m',he,R1⟩=>?_
 subst he
 obtain ⟨m2,R2,hv,_⟩:=R.joinQ hle hks' R1 hsc
 exact hK v m2 w' R2 hv

/-- THE WORD OF THE WALK: a call that is lent blocks; the first q stay in their places. -/
theorem runs_callQ {all:Array Oper} {rest:List Oper} {K:St→Prop} {dst:Option Tmp} {ty:TypeId} {pos:String} {aft:Array Edge} {gd:Option (Nat × Bool)} {fo:Operand} {args:Array Operand} {ts:Array TypeId} {g:FuncId} {avs:List AV} {H0 H1:Heap} {r:AV} {q:Nat} (ks:List Nat)
  (hc:FnQ P q g avs H0 r H1) {cap:List AV} (hfo:clA (s.ev fo)=some (g,cap)) (hg:guardA all s { dst:=dst,op:=.call { callee:=.value fo,args:=args,argTypes:=ts },type:=ty,pos:=pos,after:=aft,guard:=gd } = some true)
  (hargs:argsM s.H ks (args.toList.map s.ev++cap) avs) (hle:LeH ks s.H ks H0) (hnd:ks.Nodup) (hks:ks.all (fun k=>decide (k < s.H.length))=true) (hsc:scQ q r H0 H1=true) (hd:dstOk s dst)
  (h:Runs P false all rest K (({ s with H:=putM (kills s.H (ks.drop q)) (ks.take q) (H1.map (Blk.ren (ks.take q++List.range' s.H.length (H1.length - q)))) } : St).put dst (Go.Pv.ren (ks.take q++List.range' s.H.length (H1.length - q)) r))) :
  Runs P false all ({ dst:=dst,op:=.call { callee:=.value fo,args:=args,argTypes:=ts },type:=ty,pos:=pos,after:=aft,guard:=gd } :: rest) K s:=by
 obtain ⟨s',hr,hK⟩:=h
 exact ⟨s',.cons (.op s _ _ hg (dstOk_spec hd) (call_doesQ rfl hfo hc hargs hle hnd hks hsc) fun h=>by cases h) hr,hK⟩

/-! ### Who calls yield -/

/-- THE CONTRACT OF A ROUND. -/
def YldQ (P:Program) (q κ:Nat) (rec:Loop) (l:List AV) (x:PV) (H0:Heap) (r:AV) (H1:Heap):Prop:=
 ∀ (C:Ctx) (m:Map) (w:World) (fv v:Value) (g:Nat),Rel C m ⟨2,[(0,.yv κ l rec.tmps),(1,.p x)],H0++ancs 0 q⟩ #[fv,v] w→fv = .func (.yield g) #[] #[]→w.heap[g]? = some (.loop rec) →
  RoundIn Fence.wide 0 P g rec.fn ((rec.params.zip #[v]).foldl (fun tmps (t,a)=>tmps.setIfInBounds t a) rec.tmps) rec.assign rec.body w fun e w'=>∃ v' m',e = .returned v'∧Rel C m' ⟨1,[(0,r)],H1++ancs 0 q⟩ #[v'] w'

theorem yield_doesQ {o:Oper} {fo x:Operand} {ts:Array TypeId} (ho:o.op = .call { callee:=.value fo,args:=#[x],argTypes:=ts }) {κ0:Nat} {l0:List AV} {q κ:Nat} {rec:Loop} {l:List AV} {xv:PV} {ks:List Nat} {H0 H1:Heap} {r:AV} (hfo:s.ev fo = .yv κ0 l0 rec.tmps)
  (hp:rec.params.size=1) (hlp:hget s.H κ0 = .lp rec) (hc:YldQ P q κ rec l xv H0 r H1) (hargs:argsM s.H ks [s.ev fo,s.ev x] [.yv κ l rec.tmps,.p xv]) (hle:LeH ks s.H ks H0) (hnd:ks.Nodup) (hks:ks.all (fun k=>decide (k < s.H.length))=true) (hsc:scQ q r H0 H1=true) :
  DoesW P o s (Go.Pv.ren (ks.take q++List.range' s.H.length (H1.length - q)) r) (putM (kills s.H (ks.drop q)) (ks.take q) (H1.map (Blk.ren (ks.take q++List.range' s.H.length (H1.length - q))))):=by
 intro C m a w K Q R hK
 have hks' : ∀ k∈ks,k < s.H.length:=fun k hk=>by simpa using (List.all_eq_true.1 hks) k hk
 obtain ⟨_,hq,hna⟩:=scQ_parts hsc
 have hfv:=R.ev fo
 have hxv:=R.ev x
 have hf2:=hfv
 rw [hfo] at hf2
 obtain ⟨lc,hm,hfe⟩:∃ lc,m κ0=some lc∧a.eval fo = .func (.yield lc.g) #[] #[]:=by
  generalize a.eval fo=v at hf2
  cases hf2 with
  | yv _ _ _ _ hk h hl hr=>exact h
 obtain ⟨lc2,b1,b2,b3⟩:=R.mp.2.2.2.1 κ0 rec (hget_some hlp (by simp))
 rw [hm] at b1; cases b1
 have hrun:(execOp a.eval o).run P w = .ok (.round lc.g rec.fn ((rec.params.zip #[a.eval x]).foldl (fun tmps (t,a)=>tmps.setIfInBounds t a) rec.tmps) rec.assign rec.body) w:=by
  have hy:=run_yield (P:=P) (args:=#[a.eval x]) b3 (by rw [hp]; rfl)
  simp only [execOp,ho,resolve,hfe,Deferred.ofValue,invoke,Sem.run_bind,Sem.run_pure,Result.andThen_ok,List.map_toArray,List.map_cons,List.map_nil,Array.append_empty]
  first|exact hy|simpa using hy
 refine ⟨by rw [ho]; rfl,?_⟩
 rw [hrun]
 have g1:=(hle.get).1
 obtain ⟨e1,e2⟩:=argsM_val R (rd':=Reads (OK (subC C m s.H ks H0 w) (mren m ks) H0 w) w) (H0:=H0) (fun p v h=>h.mono (lend_ok hle)) g1.symm _ _ (fun i=>(#[a.eval fo,a.eval x]:Array Value).getD i undef) hargs fun i hi=>by
  match i,hi with
  | 0,_=>exact hfv
  | 1,_=>exact hxv
 have R0':=R.lend (q:=q) (vals:=#[a.eval fo,a.eval x]) hle hnd hq hna rfl e2
 have:=hc _ _ w _ _ lc.g R0' hfe b3
 refine RoundIn.mono this fun e w' ⟨v,m',he,R1⟩=>?_
 subst he
 obtain ⟨m2,R2,hv,_⟩:=R.joinQ hle hks' R1 hsc
 exact hK v m2 w' R2 hv

/-- THE WORD OF THE WALK: a call of yield. -/
theorem runs_yield {all:Array Oper} {rest:List Oper} {K:St→Prop} {dst:Option Tmp} {ty:TypeId} {pos:String} {aft:Array Edge} {gd:Option (Nat × Bool)} {fo x:Operand} {ts:Array TypeId} {κ0:Nat} {l0:List AV} {q κ:Nat} {rec:Loop} {l:List AV} {xv:PV} {H0 H1:Heap} {r:AV} (ks:List Nat)
  (hc:YldQ P q κ rec l xv H0 r H1) (hp:rec.params.size=1) (hfo:s.ev fo = .yv κ0 l0 rec.tmps) (hlp:hget s.H κ0 = .lp rec) (hg:guardA all s { dst:=dst,op:=.call { callee:=.value fo,args:=#[x],argTypes:=ts },type:=ty,pos:=pos,after:=aft,guard:=gd } = some true)
  (hargs:argsM s.H ks [s.ev fo,s.ev x] [.yv κ l rec.tmps,.p xv]) (hle:LeH ks s.H ks H0) (hnd:ks.Nodup) (hks:ks.all (fun k=>decide (k < s.H.length))=true) (hsc:scQ q r H0 H1=true) (hd:dstOk s dst)
  (h:Runs P false all rest K (({ s with H:=putM (kills s.H (ks.drop q)) (ks.take q) (H1.map (Blk.ren (ks.take q++List.range' s.H.length (H1.length - q)))) } : St).put dst (Go.Pv.ren (ks.take q++List.range' s.H.length (H1.length - q)) r))) :
  Runs P false all ({ dst:=dst,op:=.call { callee:=.value fo,args:=#[x],argTypes:=ts },type:=ty,pos:=pos,after:=aft,guard:=gd } :: rest) K s:=by
 obtain ⟨s',hr,hK⟩:=h
 exact ⟨s',.cons (.op s _ _ hg (dstOk_spec hd) (yield_doesQ rfl hfo hp hlp hc hargs hle hnd hks hsc) fun h=>by cases h) hr,hK⟩

end
end Go.Pv

/-
  Walks: a map of some things, spread to all. Conditions: none.
-/
set_option linter.all false
namespace Go.Proofs.YtboadfahlflmhaaDoor
open Go.Pv

theorem nl_cons (a:Nat) (W:List Nat):nl (a :: W)=((a:Nat):Int) :: nl W:=rfl
theorem rgz_neg (n:Nat):rgz n (fun a=>if a < n then -1 else 0)=prow n (fun _=>false) (fun _=>0):=by
 unfold rgz prow
 exact List.map_congr_left fun a ha=>by simp [List.mem_range.1 ha]

theorem outs_le (n:Nat) (S:Nat→Bool):outs n S≤n:=by
 unfold outs mem
 exact Nat.le_trans (List.length_filter_le _ _) (by simp)
section
variable {n e N d:Nat} {m M:List Int}

set_option maxHeartbeats 4000000 in
theorem spread_yes (h:GT n m n e) (h' : GT N M N d) (F T:List Nat) (hFT:F.length=T.length) (hFl:F.length≤1000000) (hF:∀ i,i < F.length→F.getD i 0 < n) (hT:∀ i,i < F.length→T.getD i 0 < N) (hgen:∀ a,a < n→Gen n (op m n) e (fun x=>decide (x∈F)) a) {φ:Nat→Nat} (hφ:Ext n (op m n) N (op M N) F T φ):FnG Tryd.prog 130 [gp n m,gp N M,.list (il (nl F)),.list (il (nl T))] (.sl 0 0 (il (tbm n φ)).length) [.own (opl (il (tbm n φ)))]:=by
 have G:=h.2.2
 have K:=h'.2.2
 have Tb:=h.2.1
 have Tb':=h'.2.1
 have hb:=Tb.big
 have hb':=Tb'.big
 have hlF:=nl_len F
 have hlT:=nl_len T
 have hel:=G.el
 have hr0:=rgz_len n (fun a=>if a < n then -1 else 0)
 refine fng_of tab_ok Tryd.func130 rfl (by kernel_rfl) (by rw [Tryd.ntmps130]; exact Nat.le_add_left 4 _) ?_; rw [Tryd.ntmps130]
 refine qm ?_
 refine hk_region fun K hK=>runs_eval tab_ok ?_
 simp only [ev0,evA,evB,evP,fl,gp,tab,simprocAttr,reduceCtorEq,reduceIte]
 refine fin_run ?_ (hK _ ?_)<;>clear hK<;>clear K
 ·(first|exact trivial|omega|(simp only [In64] at *; omega)|(simp [In64] at *; omega)|(simp_all; done)|skip)
 refine qa (qm ?_)
 refine hk_region fun K hK=>runs_eval tab_ok ?_
 simp only [ev0,evA,evB,evP,fl,gp,tab,simprocAttr,reduceCtorEq,reduceIte,makeSliceA.eq_def,rgz_new]
 refine fin_run ?_ (hK _ ?_)<;>clear hK<;>clear K
 ·omega
 refine qa (qm (qm ?_))
 refine hk_region fun K hK=>runs_eval tab_ok ?_
 simp only [ev0,evA,evB,evP,fl,gp,tab,simprocAttr,reduceCtorEq,reduceIte]
 refine fin_run trivial (hK _ ?_)<;>clear hK<;>clear K
 refine qa (ql ?_)
 refine hk_loop (ι:=Nat) (fun i=>⟨88,[(2,.p (.list (il (nl F)))),(3,.p (.list (il (nl T)))),(4,.ptr 0 0),(5,.ptr 1 0),(9,.sl 2 0 n),(21,.p (.int .i64 n)),(22,.p (.int .i64 i))],[.own [.p (.int .i64 n),.p (.list (il m))],.own [.p (.int .i64 N),.p (.list (il M))],.own (ol (rgz n fun a=>if a < i then -1 else 0))]⟩) (fun i=>i≤n) (fun i=>n - i) 0 (Nat.zero_le _) [0,1,2] (by simp only [leq,leA,ev0,evA,evB,evP,fl,gp,tab,simprocAttr,reduceCtorEq,reduceIte]<;>first|trivial|(simp [rgz]; done)|(simp [rgz,List.take_of_length_le]; done)) fun i hi=>?_
 have hr:=rgz_len n (fun a=>if a < i then -1 else 0)
 refine qm ?_
 refine hk_region fun K hK=>runs_eval tab_ok ?_
 simp only [ev0,evA,evB,evP,fl,gp,tab,simprocAttr,reduceCtorEq,reduceIte]
 refine fin_run trivial (hK _ ?_)<;>clear hK<;>clear K
 refine qa (qm ?_)
 refine hk_cond rfl (fun hC1=>?_) (fun hC1=>?_)
 ·(try simp only [nhs] at hC1)
  have hlt:i < n:=by omega
  have hse:(rgz n fun a=>if a < i then -1 else 0).set i (-1)=rgz n fun a=>if a < i + 1 then -1 else 0:=by
   rw [rgz_set]
   exact rgz_congr fun a ha=>by
    by_cases e:a=i
    ·simp [e]
    ·by_cases e2:a < i
     ·simp [e,e2,show a < i + 1 by omega]
     ·simp [e,e2,show ¬ a < i + 1 by omega]
  refine qh (qa (qm (ql (qm ?_))))
  refine hk_region fun K hK=>runs_eval tab_ok ?_
  simp only [ev0,evA,evB,evP,fl,gp,tab,simprocAttr,reduceCtorEq,reduceIte]
  refine fin_run trivial (hK _ ?_)<;>clear hK<;>clear K
  refine qa ?_
  refine hk_region fun K hK=>runs_eval tab_ok ?_
  simp only [ev0,evA,evB,evP,fl,gp,tab,simprocAttr,reduceCtorEq,reduceIte,ol_set,hse]
  refine fin_run ?_ (hK _ ?_)<;>clear hK<;>clear K
  ·(first|exact trivial|omega|(simp only [In64] at *; omega)|(simp [In64] at *; omega)|(simp_all; done)|skip)
  refine qd (qa ?_)
  refine hk_region fun K hK=>runs_eval tab_ok ?_
  simp only [ev0,evA,evB,evP,fl,gp,tab,simprocAttr,reduceCtorEq,reduceIte]
  refine fin_run ?_ (hK _ ?_)<;>clear hK<;>clear K
  ·(first|exact trivial|omega|(simp only [In64] at *; omega)|(simp [In64] at *; omega)|(simp_all; done)|skip)
  refine qa ?_
  refine ⟨i + 1,[0,1,2],by omega,by omega,?_⟩
  simp only [leq,leA,ev0,evA,evB,evP,fl,gp,tab,simprocAttr,reduceCtorEq,reduceIte]<;>first|trivial|omega|(simp [ol_length,rgz_len]; done)
 ·(try simp only [nhs] at hC1)
  obtain rfl:i=n:=by omega
  rw [rgz_neg]
  have hp0:=prow_len i (fun _=>false) (fun _=>0)
  refine qj (qc (qc (qf (qa (qm ?_)))))
  refine hk_draw2 mixed fun K hK=>runs2_eval tab_ok ?_
  simp only [evD,ev0,evA,evB,evP,fl,gp,tab,simprocAttr,reduceCtorEq,reduceIte,ol_set,prow_set (S:=fun _=>false) (ψ:=fun _=>0) hel rfl]
  refine fin2_stop trivial (runs2_call (oneOf_c h) rfl rfl rfl rfl (by simp only [dstOk,Nat.reduceLT]) (by repeat (first|exact trivial|constructor)) (runs2_eval tab_ok ?_))
  simp only [evD,ev0,evA,evB,evP,fl,gp,tab,simprocAttr,reduceCtorEq,reduceIte,ol_set,prow_set (S:=fun _=>false) (ψ:=fun _=>0) hel rfl]
  refine fin2_stop trivial (runs2_call (oneOf_c h') rfl rfl rfl rfl (by simp only [dstOk,Nat.reduceLT]) (by repeat (first|exact trivial|constructor)) (runs2_eval tab_ok ?_))
  simp only [evD,ev0,evA,evB,evP,fl,gp,tab,simprocAttr,reduceCtorEq,reduceIte,ol_set,prow_set (S:=fun _=>false) (ψ:=fun _=>0) hel rfl]
  refine fin2_run ?_ (hK _ _ (by first|kernel_rfl|rfl) ?_)<;>clear hK<;>clear K
  ·(first|exact trivial|omega|(simp only [In64] at *; omega)|(simp [In64] at *; omega)|(simp_all; done)|skip)
  refine qa (qm ?_)
  refine hk_region fun K hK=>runs_eval tab_ok ?_
  simp only [ev0,evA,evB,evP,fl,gp,tab,simprocAttr,reduceCtorEq,reduceIte]
  refine fin_stop trivial (runs_call (oneOf_c h) rfl rfl rfl (by simp only [dstOk,Nat.reduceLT]) (by repeat (first|exact trivial|constructor)) (runs_op (buildOwn_does (n:=1) (l:=[.int .i64 ((e:Nat):Int)]) tab_ok rfl rfl rfl rfl rfl rfl rfl ⟨⟨rfl,rfl,rfl⟩,trivial⟩ rfl (by decide) rfl) rfl (show (37:Nat) < 88 by decide) (runs_eval tab_ok ?_)))
  simp only [ev0,evA,evB,evP,fl,gp,tab,simprocAttr,reduceCtorEq,reduceIte]
  refine fin_run ?_ (hK _ ?_)<;>clear hK<;>clear K
  ·trivial
  refine qa (qm (ql ?_))
  refine hk_loop (ι:=(Nat→Bool) × (Nat→Nat) × List Int × List Nat) (fun p=>⟨88,[(2,.p (.list (il (nl F)))),(3,.p (.list (il (nl T)))),(4,.ptr 0 0),(5,.ptr 1 0),(9,.sl 2 0 (prow i p.1 p.2.1).length),(11,.sl 3 p.2.2.1.length (nl p.2.2.2).length)],[.own [.p (.int .i64 i),.p (.list (il m))],.own [.p (.int .i64 N),.p (.list (il M))],.own (ol (prow i p.1 p.2.1)),.own (ol (p.2.2.1++nl p.2.2.2))]⟩) (fun p=>Sprd i (op m i) e N (op M N) d F T p.1 p.2.1 p.2.2.2∧2 * outs i p.1 + p.2.2.2.length≤200) (fun p=>2 * outs i p.1 + p.2.2.2.length) (upd1 (fun _=>false) e,updF (fun _=>0) e d,[],[e]) ⟨Sprd.begin G K,by have:=outs_le i (upd1 (fun _=>false) e); simp only [List.length_cons,List.length_nil]; omega⟩ [0,1,2,3] (by simp only [leq,leA,ev0,evA,evB,evP,fl,gp,tab,simprocAttr,reduceCtorEq,reduceIte]<;>first|trivial|exact ⟨rfl,rfl⟩|rfl|(simp [prow_len]; done)|(simp [ol,opl,il,nl,prow_len]; done)|(simp [prow_len,List.take_of_length_le]; done)) fun p hp=>?_
  obtain ⟨S,ψ,J,W⟩:=p
  obtain ⟨hp,hbd⟩:=hp
  simp only at hp hbd
  have hpl:=prow_len i S ψ
  have hnW:=nl_len W
  refine qm (qm ?_)
  refine hk_region fun K hK=>runs_eval tab_ok ?_
  simp only [ev0,evA,evB,evP,fl,gp,tab,simprocAttr,reduceCtorEq,reduceIte]
  refine fin_run trivial (hK _ ?_)<;>clear hK<;>clear K
  refine qa ?_
  refine hk_cond rfl (fun hC2=>?_) (fun hC2=>?_)
  ·(try simp only [nhs] at hC2)
   obtain ⟨a,W',rfl⟩:∃ a W',W=a :: W':=by
    cases W with
    | nil=>simp [nl] at hC2
    | cons x w'=>exact ⟨x,w',rfl⟩
   have hnc:=nl_cons a W'
   have hnW':=nl_len W'
   have hP2:=hp.pop
   simp only [List.length_cons] at hbd
   obtain ⟨ha,hSa⟩:=hP2.ha
   refine qh (qa (ql (qm ?_)))
   refine hk_region fun K hK=>runs_eval tab_ok ?_
   simp only [ev0,evA,evB,evP,fl,gp,tab,simprocAttr,reduceCtorEq,reduceIte,hnc,app_at,Nat.add_zero]
   refine fin_run ?_ (hK _ ?_)<;>clear hK<;>clear K
   ·simp only [List.length_append,List.length_cons]; omega
   refine qa (qm ?_)
   refine hk_region fun K hK=>runs_eval tab_ok ?_
   simp only [ev0,evA,evB,evP,fl,gp,tab,simprocAttr,reduceCtorEq,reduceIte]
   refine fin_run ?_ (hK _ ?_)<;>clear hK<;>clear K
   ·(first|exact trivial|omega|(simp only [In64] at *; omega)|(simp [In64] at *; omega)|(simp_all; done)|skip)
   refine qa (qm ?_)
   refine hk_region fun K hK=>runs_eval tab_ok ?_
   simp only [ev0,evA,evB,evP,fl,gp,tab,simprocAttr,reduceCtorEq,reduceIte]
   refine fin_run trivial (hK _ ?_)<;>clear hK<;>clear K
   refine qa (ql ?_)
   refine hk_loop (ι:=Nat × (Nat→Bool) × (Nat→Nat) × List Int × List Nat) (fun p=>⟨88,[(2,.p (.list (il (nl F)))),(3,.p (.list (il (nl T)))),(4,.ptr 0 0),(5,.ptr 1 0),(9,.sl 2 0 (prow i p.2.1 p.2.2.1).length),(11,.sl 3 p.2.2.2.1.length (nl p.2.2.2.2).length),(12,.p (.int .i64 a)),(46,.p (.list (il (nl F)))),(47,.p (.int .i64 F.length)),(48,.p (.int .i64 p.1))],[.own [.p (.int .i64 i),.p (.list (il m))],.own [.p (.int .i64 N),.p (.list (il M))],.own (ol (prow i p.2.1 p.2.2.1)),.own (ol (p.2.2.2.1++nl p.2.2.2.2))]⟩) (fun p=>p.1≤F.length∧Sprd2 i (op m i) e N (op M N) d F T a p.1 p.2.1 p.2.2.1 p.2.2.2.2∧2 * outs i p.2.1 + p.2.2.2.2.length≤2 * outs i S + W'.length) (fun p=>F.length - p.1) (0,S,ψ,J++[((a:Nat):Int)],W') ⟨Nat.zero_le _,hP2,Nat.le_refl _⟩ [0,1,2,3] (by simp only [leq,leA,ev0,evA,evB,evP,fl,gp,tab,simprocAttr,reduceCtorEq,reduceIte,hnc]<;>first|trivial|exact ⟨rfl,rfl⟩|rfl|(simp [nl]; done)|(simp [nl_len,il_length]; done)|omega|(rw [List.take_of_length_le (by simp only [List.length_append,List.length_cons]; omega)]; done)|exact congrArg ol (List.take_of_length_le (by simp only [List.length_append,List.length_cons]; omega)).symm|exact ⟨by rw [List.take_of_length_le (by simp only [List.length_append,List.length_cons]; omega),List.append_assoc]; rfl,by omega⟩|trace_state) fun p hp'=>?_
   obtain ⟨j,S2,ψ2,J2,W2⟩:=p
   obtain ⟨q1,q2,q3⟩:=hp'
   simp only at q1 q2 q3
   have hpl2:=prow_len i S2 ψ2
   have hnW2:=nl_len W2
   refine qm ?_
   refine hk_region fun K hK=>runs_eval tab_ok ?_
   simp only [ev0,evA,evB,evP,fl,gp,tab,simprocAttr,reduceCtorEq,reduceIte]
   refine fin_run trivial (hK _ ?_)<;>clear hK<;>clear K
   refine qa (qm ?_)
   refine hk_cond rfl (fun hC3=>?_) (fun hC3=>?_)
   ·(try simp only [nhs] at hC3)
    have hjl:j < F.length:=by omega
    have hFj:=hF j hjl
    have hTj:=hT j hjl
    obtain ⟨_,hSa2⟩:=q2.ha
    have hψa:=q2.lt a ha hSa2
    have hbl:=G.cl _ _ ha hFj
    have pa:=prow_get (S:=S2) (ψ:=ψ2) ha
    rw [hSa2,if_pos rfl] at pa
    have pb:=prow_get (S:=S2) (ψ:=ψ2) hbl
    refine qh (qa (qm (ql (qm ?_))))
    refine hk_region fun K hK=>runs_eval tab_ok ?_
    simp only [ev0,evA,evB,evP,fl,gp,tab,simprocAttr,reduceCtorEq,reduceIte,il_get (show j < (nl F).length by omega),nl_get hjl]
    refine fin_run ?_ (hK _ ?_)<;>clear hK<;>clear K
    ·(first|exact trivial|omega|(simp only [In64] at *; omega)|(simp [In64] at *; omega)|(simp_all; done)|skip)
    refine qa (qm ?_)
    refine hk_draw2 mixed fun K hK=>runs2_eval tab_ok ?_
    simp only [evD,ev0,evA,evB,evP,fl,gp,tab,simprocAttr,reduceCtorEq,reduceIte,il_get (show j < (nl T).length by omega),nl_get (show j < T.length by omega),ol_get (show a < (prow i S2 ψ2).length by omega),pa]
    refine fin2_stop trivial (runs2_call (of_c Tb ha hFj) rfl rfl rfl rfl (by simp only [dstOk,Nat.reduceLT]) (by repeat (first|exact trivial|constructor)) (runs2_eval tab_ok ?_))
    simp only [evD,ev0,evA,evB,evP,fl,gp,tab,simprocAttr,reduceCtorEq,reduceIte,il_get (show j < (nl T).length by omega),nl_get (show j < T.length by omega),ol_get (show a < (prow i S2 ψ2).length by omega),pa]
    refine fin2_stop ?_ (runs2_call (of_c Tb' hψa hTj) rfl rfl rfl rfl (by simp only [dstOk,Nat.reduceLT]) (by repeat (first|exact trivial|constructor)) (runs2_eval tab_ok ?_))
    ·(first|exact trivial|omega|(simp only [In64] at *; omega)|(simp [In64] at *; omega)|(simp_all; done)|skip)
    simp only [evD,ev0,evA,evB,evP,fl,gp,tab,simprocAttr,reduceCtorEq,reduceIte,il_get (show j < (nl T).length by omega),nl_get (show j < T.length by omega),ol_get (show a < (prow i S2 ψ2).length by omega),pa]
    refine fin2_run ?_ (hK _ _ (by first|kernel_rfl|rfl) ?_)<;>clear hK<;>clear K
    ·(first|exact trivial|omega|(simp only [In64] at *; omega)|(simp [In64] at *; omega)|(simp_all; done)|skip)
    refine qa (qm ?_)
    rcases Bool.eq_false_or_eq_true (S2 (op m i a (F.getD j 0))) with hSb | hSb<;>simp only [hSb,if_true,if_false,Bool.false_eq_true] at pb
    ·refine hk_region fun K hK=>runs_eval tab_ok ?_
     simp only [ev0,evA,evB,evP,fl,gp,tab,simprocAttr,reduceCtorEq,reduceIte,ol_get (show op m i a (F.getD j 0) < (prow i S2 ψ2).length by omega),pb,if_true,if_false,Bool.false_eq_true]
     refine fin_run ?_ (hK _ ?_)<;>clear hK<;>clear K
     ·(first|exact trivial|omega|(simp only [In64] at *; omega)|(simp [In64] at *; omega)|(simp_all; done)|skip)
     refine qa ?_
     refine hk_cond rfl (fun hC4=>?_) (fun hC4=>?_)
     ·(try simp only [nhs] at hC4)
      simp at hC4
      omega
     ·(try simp only [nhs] at hC4)
      have hdum:True:=trivial
      refine qm ?_
      refine hk_region fun K hK=>runs_eval tab_ok ?_
      simp only [ev0,evA,evB,evP,fl,gp,tab,simprocAttr,reduceCtorEq,reduceIte,ol_get (show op m i a (F.getD j 0) < (prow i S2 ψ2).length by omega),pb,if_true]
      refine fin_run ?_ (hK _ ?_)<;>clear hK<;>clear K
      ·(first|exact trivial|omega|(simp only [In64] at *; omega)|(simp [In64] at *; omega)|(simp_all; done)|skip)
      refine qa ?_
      refine hk_cond rfl (fun hC5=>?_) (fun hC5=>?_)
      ·(try simp only [nhs] at hC5)
       have h1:=((q2.rch _ hbl hSb).fun_ G K hF hφ).2
       have h2:=((Rch.step j hjl (q2.rch a ha hSa2)).fun_ G K hF hφ).2
       omega
      ·(try simp only [nhs] at hC5)
       refine qh (qd (qa ?_))
       refine hk_region fun K hK=>runs_eval tab_ok ?_
       simp only [ev0,evA,evB,evP,fl,gp,tab,simprocAttr,reduceCtorEq,reduceIte]
       refine fin_run ?_ (hK _ ?_)<;>clear hK<;>clear K
       ·(first|exact trivial|omega|(simp only [In64] at *; omega)|(simp [In64] at *; omega)|(simp_all; done)|skip)
       refine qa ?_
       have hv:ψ2 (op m i a (F.getD j 0))=op M N (ψ2 a) (T.getD j 0):=by omega
       refine ⟨(j + 1,S2,ψ2,J2,W2),[0,1,2,3],⟨by simp only; omega,q2.keep hSb hv,q3⟩,by simp only; omega,?_⟩
       simp only [leq,leA,ev0,evA,evB,evP,fl,gp,tab,simprocAttr,reduceCtorEq,reduceIte]<;>first|trivial|omega
    ·refine hk_region fun K hK=>runs_eval tab_ok ?_
     simp only [ev0,evA,evB,evP,fl,gp,tab,simprocAttr,reduceCtorEq,reduceIte,ol_get (show op m i a (F.getD j 0) < (prow i S2 ψ2).length by omega),pb,if_true,if_false,Bool.false_eq_true]
     refine fin_run ?_ (hK _ ?_)<;>clear hK<;>clear K
     ·(first|exact trivial|omega|(simp only [In64] at *; omega)|(simp [In64] at *; omega)|(simp_all; done)|skip)
     refine qa ?_
     refine hk_cond rfl (fun hC4=>?_) (fun hC4=>?_)
     ·(try simp only [nhs] at hC4)
      refine qm ?_
      refine hk_region fun K hK=>runs_eval tab_ok ?_
      simp only [ev0,evA,evB,evP,fl,gp,tab,simprocAttr,reduceCtorEq,reduceIte,ol_set,prow_set hbl hSb]
      refine fin_run ?_ (hK _ ?_)<;>clear hK<;>clear K
      ·(first|exact trivial|omega|(simp only [In64] at *; omega)|(simp [In64] at *; omega)|(simp_all; done)|skip)
      refine qa ?_
      refine hk_region fun K hK=>runs_eval tab_ok ?_
      simp only [ev0,evA,evB,evP,fl,gp,tab,simprocAttr,reduceCtorEq,reduceIte]
      refine fin_run ?_ (hK _ ?_)<;>clear hK<;>clear K
      ·simp only [List.length_append]; omega
      refine qd (qa ?_)
      refine hk_region fun K hK=>runs_eval tab_ok ?_
      simp only [ev0,evA,evB,evP,fl,gp,tab,simprocAttr,reduceCtorEq,reduceIte]
      refine fin_run ?_ (hK _ ?_)<;>clear hK<;>clear K
      ·(first|exact trivial|omega|(simp only [In64] at *; omega)|(simp [In64] at *; omega)|(simp_all; done)|skip)
      refine qa ?_
      have ho:=outs_upd hbl hSb
      refine ⟨(j + 1,upd1 S2 (op m i a (F.getD j 0)),updF ψ2 (op m i a (F.getD j 0)) (op M N (ψ2 a) (T.getD j 0)),[],W2++[op m i a (F.getD j 0)]),[0,1,2,4],⟨by simp only; omega,q2.push G K hF hT hjl hSb,by simp only [List.length_append,List.length_cons,List.length_nil]; omega⟩,by simp only; omega,?_⟩
      simp only [nl_snoc]
      simp only [leq,leA,ev0,evA,evB,evP,fl,gp,tab,simprocAttr,reduceCtorEq,reduceIte]<;>first|trivial|omega|(simp [prow_len]; done)|exact ⟨by rw [List.drop_left,List.take_length,List.take_of_length_le (by simp)],by rw [prow_len,prow_len]⟩|trace_state
     ·(try simp only [nhs] at hC4)
      simp at hC4
   ·(try simp only [nhs] at hC3)
    obtain rfl:j=F.length:=by omega
    refine qj (qc (qc (qf (qd (qa ?_)))))
    refine ⟨(S2,ψ2,J2,W2),[0,1,2,3],⟨q2.done,by simp only; omega⟩,by simp only [List.length_cons]; omega,?_⟩
    simp only [leq,leA,ev0,evA,evB,evP,fl,gp,tab,simprocAttr,reduceCtorEq,reduceIte]<;>first|trivial|omega
  ·(try simp only [nhs] at hC2)
   obtain rfl:W=[]:=by
    cases W with
    | nil=>rfl
    | cons x w=>simp [nl] at hC2
   obtain ⟨hall,hext⟩:=hp.fin G K hF hT hgen
   have hφe:∀ a,a < i→S a=true∧ψ a=φ a:=fun a ha=>⟨hall a ha,((hp.rch a ha (hall a ha)).fun_ G K hF hφ).2.symm⟩
   have htl:=tbm_len i φ
   rw [prow_all hφe]
   refine qj (qc (qc (qf (qa (qm ?_)))))
   refine hk_region fun K hK=>runs_eval tab_ok ?_
   simp only [ev0,evA,evB,evP,fl,gp,tab,simprocAttr,reduceCtorEq,reduceIte]
   refine fin_run trivial (hK _ ?_)<;>clear hK<;>clear K
   refine qa (qk ?_)
   simp only [Tryd.results130,PostG,endG,rvsA,rvA,mkTup,ev0,evA,evB,evP,fl,gp,tab,simprocAttr,reduceCtorEq,reduceIte]
   all_goals (exact ⟨[2],rfl,rfl,rfl,by simp,⟨⟨by rw [show opl (il (tbm i φ))=ol (tbm i φ) from rfl,ol_ren,take_len],opl_sc _ _⟩,trivial⟩,trivial⟩)

set_option maxHeartbeats 4000000 in
theorem spread_no (h:GT n m n e) (h' : GT N M N d) (F T:List Nat) (hFT:F.length=T.length) (hFl:F.length≤1000000) (hF:∀ i,i < F.length→F.getD i 0 < n) (hT:∀ i,i < F.length→T.getD i 0 < N) (hgen:∀ a,a < n→Gen n (op m n) e (fun x=>decide (x∈F)) a) (hφ:∀ φ,¬ Ext n (op m n) N (op M N) F T φ):FnG Tryd.prog 130 [gp n m,gp N M,.list (il (nl F)),.list (il (nl T))] (.p .nil) []:=by
 have G:=h.2.2
 have K:=h'.2.2
 have Tb:=h.2.1
 have Tb':=h'.2.1
 have hb:=Tb.big
 have hb':=Tb'.big
 have hlF:=nl_len F
 have hlT:=nl_len T
 have hel:=G.el
 have hr0:=rgz_len n (fun a=>if a < n then -1 else 0)
 refine fng_of tab_ok Tryd.func130 rfl (by kernel_rfl) (by rw [Tryd.ntmps130]; exact Nat.le_add_left 4 _) ?_; rw [Tryd.ntmps130]
 refine qm ?_
 refine hk_region fun K hK=>runs_eval tab_ok ?_
 simp only [ev0,evA,evB,evP,fl,gp,tab,simprocAttr,reduceCtorEq,reduceIte]
 refine fin_run ?_ (hK _ ?_)<;>clear hK<;>clear K
 ·(first|exact trivial|omega|(simp only [In64] at *; omega)|(simp [In64] at *; omega)|(simp_all; done)|skip)
 refine qa (qm ?_)
 refine hk_region fun K hK=>runs_eval tab_ok ?_
 simp only [ev0,evA,evB,evP,fl,gp,tab,simprocAttr,reduceCtorEq,reduceIte,makeSliceA.eq_def,rgz_new]
 refine fin_run ?_ (hK _ ?_)<;>clear hK<;>clear K
 ·omega
 refine qa (qm (qm ?_))
 refine hk_region fun K hK=>runs_eval tab_ok ?_
 simp only [ev0,evA,evB,evP,fl,gp,tab,simprocAttr,reduceCtorEq,reduceIte]
 refine fin_run trivial (hK _ ?_)<;>clear hK<;>clear K
 refine qa (ql ?_)
 refine hk_loop (ι:=Nat) (fun i=>⟨88,[(2,.p (.list (il (nl F)))),(3,.p (.list (il (nl T)))),(4,.ptr 0 0),(5,.ptr 1 0),(9,.sl 2 0 n),(21,.p (.int .i64 n)),(22,.p (.int .i64 i))],[.own [.p (.int .i64 n),.p (.list (il m))],.own [.p (.int .i64 N),.p (.list (il M))],.own (ol (rgz n fun a=>if a < i then -1 else 0))]⟩) (fun i=>i≤n) (fun i=>n - i) 0 (Nat.zero_le _) [0,1,2] (by simp only [leq,leA,ev0,evA,evB,evP,fl,gp,tab,simprocAttr,reduceCtorEq,reduceIte]<;>first|trivial|(simp [rgz]; done)|(simp [rgz,List.take_of_length_le]; done)) fun i hi=>?_
 have hr:=rgz_len n (fun a=>if a < i then -1 else 0)
 refine qm ?_
 refine hk_region fun K hK=>runs_eval tab_ok ?_
 simp only [ev0,evA,evB,evP,fl,gp,tab,simprocAttr,reduceCtorEq,reduceIte]
 refine fin_run trivial (hK _ ?_)<;>clear hK<;>clear K
 refine qa (qm ?_)
 refine hk_cond rfl (fun hC1=>?_) (fun hC1=>?_)
 ·(try simp only [nhs] at hC1)
  have hlt:i < n:=by omega
  have hse:(rgz n fun a=>if a < i then -1 else 0).set i (-1)=rgz n fun a=>if a < i + 1 then -1 else 0:=by
   rw [rgz_set]
   exact rgz_congr fun a ha=>by
    by_cases e:a=i
    ·simp [e]
    ·by_cases e2:a < i
     ·simp [e,e2,show a < i + 1 by omega]
     ·simp [e,e2,show ¬ a < i + 1 by omega]
  refine qh (qa (qm (ql (qm ?_))))
  refine hk_region fun K hK=>runs_eval tab_ok ?_
  simp only [ev0,evA,evB,evP,fl,gp,tab,simprocAttr,reduceCtorEq,reduceIte]
  refine fin_run trivial (hK _ ?_)<;>clear hK<;>clear K
  refine qa ?_
  refine hk_region fun K hK=>runs_eval tab_ok ?_
  simp only [ev0,evA,evB,evP,fl,gp,tab,simprocAttr,reduceCtorEq,reduceIte,ol_set,hse]
  refine fin_run ?_ (hK _ ?_)<;>clear hK<;>clear K
  ·(first|exact trivial|omega|(simp only [In64] at *; omega)|(simp [In64] at *; omega)|(simp_all; done)|skip)
  refine qd (qa ?_)
  refine hk_region fun K hK=>runs_eval tab_ok ?_
  simp only [ev0,evA,evB,evP,fl,gp,tab,simprocAttr,reduceCtorEq,reduceIte]
  refine fin_run ?_ (hK _ ?_)<;>clear hK<;>clear K
  ·(first|exact trivial|omega|(simp only [In64] at *; omega)|(simp [In64] at *; omega)|(simp_all; done)|skip)
  refine qa ?_
  refine ⟨i + 1,[0,1,2],by omega,by omega,?_⟩
  simp only [leq,leA,ev0,evA,evB,evP,fl,gp,tab,simprocAttr,reduceCtorEq,reduceIte]<;>first|trivial|omega|(simp [ol_length,rgz_len]; done)
 ·(try simp only [nhs] at hC1)
  obtain rfl:i=n:=by omega
  rw [rgz_neg]
  have hp0:=prow_len i (fun _=>false) (fun _=>0)
  refine qj (qc (qc (qf (qa (qm ?_)))))
  refine hk_draw2 mixed fun K hK=>runs2_eval tab_ok ?_
  simp only [evD,ev0,evA,evB,evP,fl,gp,tab,simprocAttr,reduceCtorEq,reduceIte,ol_set,prow_set (S:=fun _=>false) (ψ:=fun _=>0) hel rfl]
  refine fin2_stop trivial (runs2_call (oneOf_c h) rfl rfl rfl rfl (by simp only [dstOk,Nat.reduceLT]) (by repeat (first|exact trivial|constructor)) (runs2_eval tab_ok ?_))
  simp only [evD,ev0,evA,evB,evP,fl,gp,tab,simprocAttr,reduceCtorEq,reduceIte,ol_set,prow_set (S:=fun _=>false) (ψ:=fun _=>0) hel rfl]
  refine fin2_stop trivial (runs2_call (oneOf_c h') rfl rfl rfl rfl (by simp only [dstOk,Nat.reduceLT]) (by repeat (first|exact trivial|constructor)) (runs2_eval tab_ok ?_))
  simp only [evD,ev0,evA,evB,evP,fl,gp,tab,simprocAttr,reduceCtorEq,reduceIte,ol_set,prow_set (S:=fun _=>false) (ψ:=fun _=>0) hel rfl]
  refine fin2_run ?_ (hK _ _ (by first|kernel_rfl|rfl) ?_)<;>clear hK<;>clear K
  ·(first|exact trivial|omega|(simp only [In64] at *; omega)|(simp [In64] at *; omega)|(simp_all; done)|skip)
  refine qa (qm ?_)
  refine hk_region fun K hK=>runs_eval tab_ok ?_
  simp only [ev0,evA,evB,evP,fl,gp,tab,simprocAttr,reduceCtorEq,reduceIte]
  refine fin_stop trivial (runs_call (oneOf_c h) rfl rfl rfl (by simp only [dstOk,Nat.reduceLT]) (by repeat (first|exact trivial|constructor)) (runs_op (buildOwn_does (n:=1) (l:=[.int .i64 ((e:Nat):Int)]) tab_ok rfl rfl rfl rfl rfl rfl rfl ⟨⟨rfl,rfl,rfl⟩,trivial⟩ rfl (by decide) rfl) rfl (show (37:Nat) < 88 by decide) (runs_eval tab_ok ?_)))
  simp only [ev0,evA,evB,evP,fl,gp,tab,simprocAttr,reduceCtorEq,reduceIte]
  refine fin_run ?_ (hK _ ?_)<;>clear hK<;>clear K
  ·trivial
  refine qa (qm (ql ?_))
  refine hk_loop (ι:=(Nat→Bool) × (Nat→Nat) × List Int × List Nat) (fun p=>⟨88,[(2,.p (.list (il (nl F)))),(3,.p (.list (il (nl T)))),(4,.ptr 0 0),(5,.ptr 1 0),(9,.sl 2 0 (prow i p.1 p.2.1).length),(11,.sl 3 p.2.2.1.length (nl p.2.2.2).length)],[.own [.p (.int .i64 i),.p (.list (il m))],.own [.p (.int .i64 N),.p (.list (il M))],.own (ol (prow i p.1 p.2.1)),.own (ol (p.2.2.1++nl p.2.2.2))]⟩) (fun p=>Sprd i (op m i) e N (op M N) d F T p.1 p.2.1 p.2.2.2∧2 * outs i p.1 + p.2.2.2.length≤200) (fun p=>2 * outs i p.1 + p.2.2.2.length) (upd1 (fun _=>false) e,updF (fun _=>0) e d,[],[e]) ⟨Sprd.begin G K,by have:=outs_le i (upd1 (fun _=>false) e); simp only [List.length_cons,List.length_nil]; omega⟩ [0,1,2,3] (by simp only [leq,leA,ev0,evA,evB,evP,fl,gp,tab,simprocAttr,reduceCtorEq,reduceIte]<;>first|trivial|exact ⟨rfl,rfl⟩|rfl|(simp [prow_len]; done)|(simp [ol,opl,il,nl,prow_len]; done)|(simp [prow_len,List.take_of_length_le]; done)) fun p hp=>?_
  obtain ⟨S,ψ,J,W⟩:=p
  obtain ⟨hp,hbd⟩:=hp
  simp only at hp hbd
  have hpl:=prow_len i S ψ
  have hnW:=nl_len W
  refine qm (qm ?_)
  refine hk_region fun K hK=>runs_eval tab_ok ?_
  simp only [ev0,evA,evB,evP,fl,gp,tab,simprocAttr,reduceCtorEq,reduceIte]
  refine fin_run trivial (hK _ ?_)<;>clear hK<;>clear K
  refine qa ?_
  refine hk_cond rfl (fun hC2=>?_) (fun hC2=>?_)
  ·(try simp only [nhs] at hC2)
   obtain ⟨a,W',rfl⟩:∃ a W',W=a :: W':=by
    cases W with
    | nil=>simp [nl] at hC2
    | cons x w'=>exact ⟨x,w',rfl⟩
   have hnc:=nl_cons a W'
   have hnW':=nl_len W'
   have hP2:=hp.pop
   simp only [List.length_cons] at hbd
   obtain ⟨ha,hSa⟩:=hP2.ha
   refine qh (qa (ql (qm ?_)))
   refine hk_region fun K hK=>runs_eval tab_ok ?_
   simp only [ev0,evA,evB,evP,fl,gp,tab,simprocAttr,reduceCtorEq,reduceIte,hnc,app_at,Nat.add_zero]
   refine fin_run ?_ (hK _ ?_)<;>clear hK<;>clear K
   ·simp only [List.length_append,List.length_cons]; omega
   refine qa (qm ?_)
   refine hk_region fun K hK=>runs_eval tab_ok ?_
   simp only [ev0,evA,evB,evP,fl,gp,tab,simprocAttr,reduceCtorEq,reduceIte]
   refine fin_run ?_ (hK _ ?_)<;>clear hK<;>clear K
   ·(first|exact trivial|omega|(simp only [In64] at *; omega)|(simp [In64] at *; omega)|(simp_all; done)|skip)
   refine qa (qm ?_)
   refine hk_region fun K hK=>runs_eval tab_ok ?_
   simp only [ev0,evA,evB,evP,fl,gp,tab,simprocAttr,reduceCtorEq,reduceIte]
   refine fin_run trivial (hK _ ?_)<;>clear hK<;>clear K
   refine qa (ql ?_)
   refine hk_loop (ι:=Nat × (Nat→Bool) × (Nat→Nat) × List Int × List Nat) (fun p=>⟨88,[(2,.p (.list (il (nl F)))),(3,.p (.list (il (nl T)))),(4,.ptr 0 0),(5,.ptr 1 0),(9,.sl 2 0 (prow i p.2.1 p.2.2.1).length),(11,.sl 3 p.2.2.2.1.length (nl p.2.2.2.2).length),(12,.p (.int .i64 a)),(46,.p (.list (il (nl F)))),(47,.p (.int .i64 F.length)),(48,.p (.int .i64 p.1))],[.own [.p (.int .i64 i),.p (.list (il m))],.own [.p (.int .i64 N),.p (.list (il M))],.own (ol (prow i p.2.1 p.2.2.1)),.own (ol (p.2.2.2.1++nl p.2.2.2.2))]⟩) (fun p=>p.1≤F.length∧Sprd2 i (op m i) e N (op M N) d F T a p.1 p.2.1 p.2.2.1 p.2.2.2.2∧2 * outs i p.2.1 + p.2.2.2.2.length≤2 * outs i S + W'.length) (fun p=>F.length - p.1) (0,S,ψ,J++[((a:Nat):Int)],W') ⟨Nat.zero_le _,hP2,Nat.le_refl _⟩ [0,1,2,3] (by simp only [leq,leA,ev0,evA,evB,evP,fl,gp,tab,simprocAttr,reduceCtorEq,reduceIte,hnc]<;>first|trivial|exact ⟨rfl,rfl⟩|rfl|(simp [nl]; done)|(simp [nl_len,il_length]; done)|omega|(rw [List.take_of_length_le (by simp only [List.length_append,List.length_cons]; omega)]; done)|exact congrArg ol (List.take_of_length_le (by simp only [List.length_append,List.length_cons]; omega)).symm|exact ⟨by rw [List.take_of_length_le (by simp only [List.length_append,List.length_cons]; omega),List.append_assoc]; rfl,by omega⟩|trace_state) fun p hp'=>?_
   obtain ⟨j,S2,ψ2,J2,W2⟩:=p
   obtain ⟨q1,q2,q3⟩:=hp'
   simp only at q1 q2 q3
   have hpl2:=prow_len i S2 ψ2
   have hnW2:=nl_len W2
   refine qm ?_
   refine hk_region fun K hK=>runs_eval tab_ok ?_
   simp only [ev0,evA,evB,evP,fl,gp,tab,simprocAttr,reduceCtorEq,reduceIte]
   refine fin_run trivial (hK _ ?_)<;>clear hK<;>clear K
   refine qa (qm ?_)
   refine hk_cond rfl (fun hC3=>?_) (fun hC3=>?_)
   ·(try simp only [nhs] at hC3)
    have hjl:j < F.length:=by omega
    have hFj:=hF j hjl
    have hTj:=hT j hjl
    obtain ⟨_,hSa2⟩:=q2.ha
    have hψa:=q2.lt a ha hSa2
    have hbl:=G.cl _ _ ha hFj
    have pa:=prow_get (S:=S2) (ψ:=ψ2) ha
    rw [hSa2,if_pos rfl] at pa
    have pb:=prow_get (S:=S2) (ψ:=ψ2) hbl
    refine qh (qa (qm (ql (qm ?_))))
    refine hk_region fun K hK=>runs_eval tab_ok ?_
    simp only [ev0,evA,evB,evP,fl,gp,tab,simprocAttr,reduceCtorEq,reduceIte,il_get (show j < (nl F).length by omega),nl_get hjl]
    refine fin_run ?_ (hK _ ?_)<;>clear hK<;>clear K
    ·(first|exact trivial|omega|(simp only [In64] at *; omega)|(simp [In64] at *; omega)|(simp_all; done)|skip)
    refine qa (qm ?_)
    refine hk_draw2 mixed fun K hK=>runs2_eval tab_ok ?_
    simp only [evD,ev0,evA,evB,evP,fl,gp,tab,simprocAttr,reduceCtorEq,reduceIte,il_get (show j < (nl T).length by omega),nl_get (show j < T.length by omega),ol_get (show a < (prow i S2 ψ2).length by omega),pa]
    refine fin2_stop trivial (runs2_call (of_c Tb ha hFj) rfl rfl rfl rfl (by simp only [dstOk,Nat.reduceLT]) (by repeat (first|exact trivial|constructor)) (runs2_eval tab_ok ?_))
    simp only [evD,ev0,evA,evB,evP,fl,gp,tab,simprocAttr,reduceCtorEq,reduceIte,il_get (show j < (nl T).length by omega),nl_get (show j < T.length by omega),ol_get (show a < (prow i S2 ψ2).length by omega),pa]
    refine fin2_stop ?_ (runs2_call (of_c Tb' hψa hTj) rfl rfl rfl rfl (by simp only [dstOk,Nat.reduceLT]) (by repeat (first|exact trivial|constructor)) (runs2_eval tab_ok ?_))
    ·(first|exact trivial|omega|(simp only [In64] at *; omega)|(simp [In64] at *; omega)|(simp_all; done)|skip)
    simp only [evD,ev0,evA,evB,evP,fl,gp,tab,simprocAttr,reduceCtorEq,reduceIte,il_get (show j < (nl T).length by omega),nl_get (show j < T.length by omega),ol_get (show a < (prow i S2 ψ2).length by omega),pa]
    refine fin2_run ?_ (hK _ _ (by first|kernel_rfl|rfl) ?_)<;>clear hK<;>clear K
    ·(first|exact trivial|omega|(simp only [In64] at *; omega)|(simp [In64] at *; omega)|(simp_all; done)|skip)
    refine qa (qm ?_)
    rcases Bool.eq_false_or_eq_true (S2 (op m i a (F.getD j 0))) with hSb | hSb<;>simp only [hSb,if_true,if_false,Bool.false_eq_true] at pb
    ·refine hk_region fun K hK=>runs_eval tab_ok ?_
     simp only [ev0,evA,evB,evP,fl,gp,tab,simprocAttr,reduceCtorEq,reduceIte,ol_get (show op m i a (F.getD j 0) < (prow i S2 ψ2).length by omega),pb,if_true,if_false,Bool.false_eq_true]
     refine fin_run ?_ (hK _ ?_)<;>clear hK<;>clear K
     ·(first|exact trivial|omega|(simp only [In64] at *; omega)|(simp [In64] at *; omega)|(simp_all; done)|skip)
     refine qa ?_
     refine hk_cond rfl (fun hC4=>?_) (fun hC4=>?_)
     ·(try simp only [nhs] at hC4)
      simp at hC4
      omega
     ·(try simp only [nhs] at hC4)
      have hdum:True:=trivial
      refine qm ?_
      refine hk_region fun K hK=>runs_eval tab_ok ?_
      simp only [ev0,evA,evB,evP,fl,gp,tab,simprocAttr,reduceCtorEq,reduceIte,ol_get (show op m i a (F.getD j 0) < (prow i S2 ψ2).length by omega),pb,if_true]
      refine fin_run ?_ (hK _ ?_)<;>clear hK<;>clear K
      ·(first|exact trivial|omega|(simp only [In64] at *; omega)|(simp [In64] at *; omega)|(simp_all; done)|skip)
      refine qa ?_
      refine hk_cond rfl (fun hC5=>?_) (fun hC5=>?_)
      ·(try simp only [nhs] at hC5)
       refine qm ?_
       refine hk_region fun K hK=>runs_eval tab_ok ?_
       simp only [ev0,evA,evB,evP,fl,gp,tab,simprocAttr,reduceCtorEq,reduceIte]
       refine fin_run trivial (hK _ ?_)<;>clear hK<;>clear K
       refine qa (qk (qe (qb (qb (qe (qe (qb (qe (qb ?_)))))))))
       simp only [Tryd.results130,PostG,endG,rvsA,rvA,mkTup,ev0,evA,evB,evP,fl,gp,tab,simprocAttr,reduceCtorEq,reduceIte]
       all_goals (exact ⟨[],rfl,rfl,by simp only [leq,leA,ev0,evA,evB,evP,fl,gp,tab,simprocAttr,reduceCtorEq,reduceIte]<;>first|trivial|omega⟩)
      ·(try simp only [nhs] at hC5)
       refine qh (qd (qa ?_))
       refine hk_region fun K hK=>runs_eval tab_ok ?_
       simp only [ev0,evA,evB,evP,fl,gp,tab,simprocAttr,reduceCtorEq,reduceIte]
       refine fin_run ?_ (hK _ ?_)<;>clear hK<;>clear K
       ·(first|exact trivial|omega|(simp only [In64] at *; omega)|(simp [In64] at *; omega)|(simp_all; done)|skip)
       refine qa ?_
       have hv:ψ2 (op m i a (F.getD j 0))=op M N (ψ2 a) (T.getD j 0):=by omega
       refine ⟨(j + 1,S2,ψ2,J2,W2),[0,1,2,3],⟨by simp only; omega,q2.keep hSb hv,q3⟩,by simp only; omega,?_⟩
       simp only [leq,leA,ev0,evA,evB,evP,fl,gp,tab,simprocAttr,reduceCtorEq,reduceIte]<;>first|trivial|omega
    ·refine hk_region fun K hK=>runs_eval tab_ok ?_
     simp only [ev0,evA,evB,evP,fl,gp,tab,simprocAttr,reduceCtorEq,reduceIte,ol_get (show op m i a (F.getD j 0) < (prow i S2 ψ2).length by omega),pb,if_true,if_false,Bool.false_eq_true]
     refine fin_run ?_ (hK _ ?_)<;>clear hK<;>clear K
     ·(first|exact trivial|omega|(simp only [In64] at *; omega)|(simp [In64] at *; omega)|(simp_all; done)|skip)
     refine qa ?_
     refine hk_cond rfl (fun hC4=>?_) (fun hC4=>?_)
     ·(try simp only [nhs] at hC4)
      refine qm ?_
      refine hk_region fun K hK=>runs_eval tab_ok ?_
      simp only [ev0,evA,evB,evP,fl,gp,tab,simprocAttr,reduceCtorEq,reduceIte,ol_set,prow_set hbl hSb]
      refine fin_run ?_ (hK _ ?_)<;>clear hK<;>clear K
      ·(first|exact trivial|omega|(simp only [In64] at *; omega)|(simp [In64] at *; omega)|(simp_all; done)|skip)
      refine qa ?_
      refine hk_region fun K hK=>runs_eval tab_ok ?_
      simp only [ev0,evA,evB,evP,fl,gp,tab,simprocAttr,reduceCtorEq,reduceIte]
      refine fin_run ?_ (hK _ ?_)<;>clear hK<;>clear K
      ·simp only [List.length_append]; omega
      refine qd (qa ?_)
      refine hk_region fun K hK=>runs_eval tab_ok ?_
      simp only [ev0,evA,evB,evP,fl,gp,tab,simprocAttr,reduceCtorEq,reduceIte]
      refine fin_run ?_ (hK _ ?_)<;>clear hK<;>clear K
      ·(first|exact trivial|omega|(simp only [In64] at *; omega)|(simp [In64] at *; omega)|(simp_all; done)|skip)
      refine qa ?_
      have ho:=outs_upd hbl hSb
      refine ⟨(j + 1,upd1 S2 (op m i a (F.getD j 0)),updF ψ2 (op m i a (F.getD j 0)) (op M N (ψ2 a) (T.getD j 0)),[],W2++[op m i a (F.getD j 0)]),[0,1,2,4],⟨by simp only; omega,q2.push G K hF hT hjl hSb,by simp only [List.length_append,List.length_cons,List.length_nil]; omega⟩,by simp only; omega,?_⟩
      simp only [nl_snoc]
      simp only [leq,leA,ev0,evA,evB,evP,fl,gp,tab,simprocAttr,reduceCtorEq,reduceIte]<;>first|trivial|omega|(simp [prow_len]; done)|exact ⟨by rw [List.drop_left,List.take_length,List.take_of_length_le (by simp)],by rw [prow_len,prow_len]⟩|trace_state
     ·(try simp only [nhs] at hC4)
      simp at hC4
   ·(try simp only [nhs] at hC3)
    obtain rfl:j=F.length:=by omega
    refine qj (qc (qc (qf (qd (qa ?_)))))
    refine ⟨(S2,ψ2,J2,W2),[0,1,2,3],⟨q2.done,by simp only; omega⟩,by simp only [List.length_cons]; omega,?_⟩
    simp only [leq,leA,ev0,evA,evB,evP,fl,gp,tab,simprocAttr,reduceCtorEq,reduceIte]<;>first|trivial|omega
  ·(try simp only [nhs] at hC2)
   obtain rfl:W=[]:=by
    cases W with
    | nil=>rfl
    | cons x w=>simp [nl] at hC2
   obtain ⟨hall,hext⟩:=hp.fin G K hF hT hgen
   exact absurd hext (hφ ψ)
end
end Go.Proofs.YtboadfahlflmhaaDoor

/-
  Loops over a function: a round out of its body's walk; the statement. Conditions: none; a library text.
-/
set_option linter.all false
namespace Go.Pv
open Go.RowKit

section
variable {P:Program} {T:TypeId→Option TI} {C:Ctx} {m:Map} {s:St} {tmps:Array Value} {w:World}

theorem Rel.reslot {n n' : Nat} {sl sl' : List (Nat × AV)} {H:Heap} {tmps' : Array Value} (R:Rel C m ⟨n,sl,H⟩ tmps w) (h1:tmps'.size=n') (h2:∀ t,AVal (Reads (OK C m H w) w) m H (lk sl' t) (tmps'.getD t undef)):Rel C m ⟨n',sl',H⟩ tmps' w:=
 ⟨R.laid,R.below,R.base,h1,R.inj,R.blk,R.fro,h2,R.mp⟩

theorem hset_app {A B:Heap} {κ:Nat} {b:Blk} (h:κ < A.length):hset (A++B) κ b=hset A κ b++B:=by
 refine List.ext_getElem? fun j=>?_
 have h2:κ < (A++B).length:=by simp; omega
 by_cases hj:j < A.length
 ·have e1:(hset A κ b++B)[j]? = (hset A κ b)[j]?:=List.getElem?_append_left (by rw [hset_length]; exact hj)
  have e2:(A++B)[j]? = A[j]?:=List.getElem?_append_left hj
  rw [e1,hset_get,hset_get,e2]
  by_cases e:j=κ
  ·rw [if_pos ⟨e,h2⟩,if_pos ⟨e,h⟩]
  ·rw [if_neg (by simp [e]),if_neg (by simp [e])]
 ·have e1:(hset A κ b++B)[j]? = B[j - A.length]?:=by rw [List.getElem?_append_right (by rw [hset_length]; omega),hset_length]
  have e2:(A++B)[j]? = B[j - A.length]?:=List.getElem?_append_right (by omega)
  rw [e1,hset_get,e2,if_neg (by omega)]

/-- What is known of a frame, slot by slot. -/
def envA (n:Nat) (sl:List (Nat × AV)):List AV:=(List.range n).map (lk sl)
theorem envA_len (n:Nat) (sl:List (Nat × AV)):(envA n sl).length=n:=by simp [envA]
theorem envA_get {n:Nat} {sl:List (Nat × AV)} {c:Nat} (h:c < (envA n sl).length):(envA n sl)[c]=lk sl c:=by simp [envA]
def keysLt (n:Nat) (sl:List (Nat × AV)):Bool:=sl.all fun e=>decide (e.1 < n)
theorem keysLt_lk:∀ {n:Nat} {sl:List (Nat × AV)},keysLt n sl=true→∀ t,n≤t→lk sl t = .dead
 | n,[],_,t,_=>rfl
 | n,(i,a) :: r,h,t,ht=>by
  simp only [keysLt,List.all_cons,Bool.and_eq_true,decide_eq_true_eq] at h
  simp only [lk]
  rw [show (i == t)=false by simp; omega]
  exact keysLt_lk h.2 t ht

/-- A hole for a loop's record. -/
structure HoleQ (κ:Nat) (Hf:Blk→Heap):Prop where
 at_:∀ b,(Hf b)[κ]? = some b
 set_:∀ b b',hset (Hf b) κ b' = Hf b'

theorem HoleQ.lt {κ:Nat} {Hf:Blk→Heap} (h:HoleQ κ Hf) (b:Blk):κ < (Hf b).length:=(List.getElem?_eq_some_iff.1 (h.at_ b)).1
theorem HoleQ.app {κ:Nat} {Hf:Blk→Heap} (h:HoleQ κ Hf) (B:Heap):HoleQ κ fun b=>Hf b++B:=
 ⟨fun b=>by rw [List.getElem?_append_left (h.lt b)]; exact h.at_ b,fun b b'=>by show hset (Hf b++B) κ b' = Hf b'++B; rw [hset_app (h.lt b),h.set_]⟩

/-- The record behind a round. -/
def recB (b:Bool) (rec:Loop):Loop:=if b then rec else { rec with state:=.done,pending:=some .ret }

structure RecOk (rec:Loop) (n pp:Nat) (assign body:Code):Prop where
 params:rec.params = #[pp]
 assign:rec.assign=assign
 body:rec.body=body
 state:rec.state = .ready
 pending:rec.pending=none
 size:rec.tmps.size=n

theorem anc_at {q:Nat} {H:Heap} {κ:Nat} (hκ:κ < q):(H++ancs 0 q)[H.length + κ]? = some (.anc κ κ):=by
 rw [List.getElem?_append_right (by omega),Nat.add_sub_cancel_left,ancs_at _ _ _ hκ,Nat.zero_add]

/-- A ROUND'S CONTRACT, out of its body's walk. -/
theorem yld_of {q κ n pp:Nat} {rec:Loop} {assign body:Code} {sl sl1:List (Nat × AV)} {x:PV} {H0 H1:Blk→Heap} {b:Bool} (hr:RecOk rec n pp assign body) (hpp:pp < n) (hsl:keysLt n sl=true) (hκ:κ < q) (h0:HoleQ κ H0) (h1:HoleQ κ H1)
  (hA:∀ r0,Holds P assign (fun e s'=>e = .normal∧∃ π,Le π ⟨n,sl1,H0 (.lp r0)++ancs 0 q⟩ s') ⟨n,(pp,.p x) :: sl,H0 (.lp r0)++ancs 0 q⟩)
  (hB:∀ r0,Holds P body (fun e s'=>e=(if b then .normal else .ret)∧∃ π,Le π ⟨n,[],H1 (.lp r0)++ancs 0 q⟩ s') ⟨n,sl1,H0 (.lp r0)++ancs 0 q⟩) :
  YldQ P q κ rec (envA n sl) x (H0 (.lp rec)) (.p (.bool b)) (H1 (.lp (recB b rec))):=by
 intro C m w fv v g R hfv hg
 have hs0:AVal _ m (H0 (.lp rec)++ancs 0 q) (.yv κ (envA n sl) rec.tmps) fv:=R.slot 0
 have hs1:AVal _ m (H0 (.lp rec)++ancs 0 q) (.p x) v:=R.slot 1
 have hloc:∃ lc,m κ=some lc∧fv = .func (.yield lc.g) #[] #[]:=by
  cases hs0 with
  | yv _ _ _ _ _ h _ _=>exact h
 have henv:∀ c (h:c < (envA n sl).length),AVal (Reads (OK C m (H0 (.lp rec)++ancs 0 q) w) w) m (H0 (.lp rec)++ancs 0 q) (envA n sl)[c] (rec.tmps.getD c undef):=by
  cases hs0 with
  | yv _ _ _ _ _ _ _ h=>exact h
 obtain ⟨lc,hm,hfe⟩:=hloc
 rw [hfv] at hfe
 obtain rfl:g=lc.g:=by cases hfe; rfl
 have hanc:m κ=C.anc κ:=(R.mp.2.2.1 _ κ κ (anc_at hκ)).2
 have htm:(rec.params.zip #[v]).foldl (fun tmps (t,a)=>tmps.setIfInBounds t a) rec.tmps=rec.tmps.setIfInBounds pp v:=by rw [hr.params]; simp [Array.zip]
 rw [htm,hr.assign,hr.body]
 have R1:Rel C m ⟨n,(pp,.p x) :: sl,H0 (.lp rec)++ancs 0 q⟩ (rec.tmps.setIfInBounds pp v) w:=R.reslot (by rw [Array.size_setIfInBounds]; exact hr.size) fun t=>by
  simp only [lk]
  by_cases e:pp=t
  ·subst e
   rw [show (pp == pp)=true by simp,cond_true]
   have:(rec.tmps.setIfInBounds pp v).getD pp undef=v:=by simp [Array.getD_eq_getD_getElem?,hr.size,hpp]
   rw [this]; exact hs1
  ·rw [show (pp == t)=false by simpa using e,cond_false]
   have e2:(rec.tmps.setIfInBounds pp v).getD t undef=rec.tmps.getD t undef:=by
    simp only [Array.getD_eq_getD_getElem?]
    rw [Array.getElem?_setIfInBounds_ne e]
   rw [e2]
   by_cases ht:t < n
   ·have:=henv t (by rw [envA_len]; exact ht)
    rwa [envA_get] at this
   ·rw [keysLt_lk hsl t (by omega)]; exact .dead _
 refine roundIn_of_wpIn (F:=Fence.wide) trivial ?_
 refine wpR_mono (r:=some lc.g) (hA rec (some lc.g) [] C m { tmps:=rec.tmps.setIfInBounds pp v,defers:=[] } w R1 rfl) fun e a1 w1 ⟨s1,m1,⟨he,π,hle⟩,R2,hd⟩=>?_
 subst he
 have R3:=R2.weaken hle
 have g0:=h0.app (ancs 0 q)
 obtain ⟨l1,c1,c2,c3⟩:=R3.mp.2.2.2.1 κ rec (g0.at_ _)
 have hl1:l1.g=lc.g:=by
  have:=(R3.mp.2.2.1 _ κ κ (anc_at hκ)).2
  rw [c1,← hanc,hm] at this
  rw [Option.some.inj this]
 rw [hl1] at c3
 refine ⟨_,run_beginRound c3 hr.state,?_⟩
 have R4:=R3.setLp (r':={ rec with state:=.busy }) (g0.at_ _) c1
 rw [hl1] at R4
 simp only at R4
 rw [show hset (H0 (.lp rec)++ancs 0 q) κ (.lp { rec with state:=.busy })=H0 (.lp { rec with state:=.busy })++ancs 0 q from g0.set_ _ _] at R4
 refine wpR_mono (r:=some lc.g) (hB _ (some lc.g) [] C _ a1 _ R4 hd) fun e a2 w3 ⟨s2,m2,⟨he,π2,hle2⟩,R5,hd2⟩=>?_
 have R6:=R5.weaken hle2
 have g1:=h1.app (ancs 0 q)
 obtain ⟨l2,d1,d2,d3⟩:=R6.mp.2.2.2.1 κ _ (g1.at_ _)
 have hl2:l2.g=lc.g:=by
  have:=(R6.mp.2.2.1 _ κ κ (anc_at hκ)).2
  rw [d1,← hanc,hm] at this
  rw [Option.some.inj this]
 rw [hl2] at d3
 have fin:∀ (jump:Option Code) (b' : Bool),jump.isNone=b'→({ rec with state:=if b' then .ready else .done,pending:=jump } : Loop)=recB b rec→b' = b→∃ v w',(Instr.endRound lc.g jump).run P w3 = .ok v w' ∧
   ∃ v' m',Ending.returned v = .returned v'∧Rel C m' ⟨1,[(0,.p (.bool b))],H1 (.lp (recB b rec))++ancs 0 q⟩ #[v'] w':=fun jump b' hj hrec hb=>by
  have hrun:=run_endRound (P:=P) jump d3
  rw [hj] at hrun
  refine ⟨_,_,hrun,_,mren m2 π2,rfl,?_⟩
  have R7:=R6.setLp (r':=recB b rec) (g1.at_ _) d1
  rw [hl2] at R7
  simp only at R7
  rw [show hset (H1 (.lp { rec with state:=.busy })++ancs 0 q) κ (.lp (recB b rec))=H1 (.lp (recB b rec))++ancs 0 q from g1.set_ _ _] at R7
  rw [← hrec] at R7 ⊢
  simp only at R7 ⊢
  refine R7.reslot rfl fun t=>?_
  cases t with
  | zero=>rw [hb]; exact .p _ _ (.bool b)
  | succ t=>exact .dead _
 subst he
 cases b with
 | true =>
  refine fin none true rfl ?_ rfl
  have:=hr.state
  have:=hr.pending
  cases rec
  simp only at *
  subst_vars
  rfl
 | false=>exact fin (some .ret) false rfl rfl rfl

/-! ### Code with a loop over a function -/

/-- The marks among the deferred calls. -/
def Dfr (C0 C:Ctx) (ds:List Deferred):Prop:=ds.Nodup∧∀ d∈ds,∃ D,d = { target:=.collected D,args:=#[] }∧C0.B D∧¬ C.B D∧C.w0.heap[D]? = some (.deferred (some []))

def SubX (C C0:Ctx):Prop:=∀ m s tmps w,Rel C m s tmps w→Rel C0 m s tmps w

def HoldsR (P:Program) (c:Code) (Q:Exit→St→Prop) (s:St):Prop:=
 ∀ C0 C m (a:Act) w,SubX C C0→Rel C m s a.tmps w→Dfr C0 C a.defers→wpR none P c (fun e a' w'=>∃ C' s' m',SubX C' C0∧Q e s'∧Rel C' m' s' a'.tmps w'∧Dfr C0 C' a'.defers) a w

variable {Q:Exit→St→Prop}

theorem hr_of_hk {c:Code} (h:Holds P c Q s):HoldsR P c Q s:=fun C0 C m a w hS R hd =>
 wpR_mono (h none a.defers C m a w R rfl) fun e a' w' ⟨s',m',h1,h2,h3⟩=>⟨C,s',m',hS,h1,h2,by rw [h3]; exact hd⟩
theorem hr_seq {x y:Code} (h:HoldsR P x (Thn (HoldsR P y Q) Q) s):HoldsR P (.seq x y) Q s:=by
 intro C0 C m a w hS R hd
 refine wpR_seq (wpR_mono (h C0 C m a w hS R hd) fun e a' w' ⟨C',s',m',h0,h1,h2,h3⟩=>?_)
 cases e with
 | normal=>exact h1 C0 C' m' a' w' h0 h2 h3
 | _=>exact ⟨C',s',m',h0,h1,h2,h3⟩
theorem hr_seqH {x y:Code} (h:Holds P x (Thn (HoldsR P y Q) Q) s):HoldsR P (.seq x y) Q s:=hr_seq (hr_of_hk h)
theorem hr_block {id:Nat} {c:Code} (h:HoldsR P c (InB id Q) s):HoldsR P (.block id c) Q s:=by
 intro C0 C m a w hS R hd
 refine wpR_block (wpR_mono (h C0 C m a w hS R hd) fun e a' w' ⟨C',s',m',h0,h1,h2,h3⟩=>?_)
 cases e with
 | exit j =>
  simp only [InB,Exit.inBlock] at h1 ⊢
  by_cases e:j=id
  ·rw [if_pos e] at h1 ⊢; exact ⟨C',s',m',h0,h1,h2,h3⟩
  ·rw [if_neg e] at h1 ⊢; exact ⟨C',s',m',h0,h1,h2,h3⟩
 | _=>exact ⟨C',s',m',h0,h1,h2,h3⟩
theorem hr_cond {c:Operand} {x y:Code} {b:Bool} (hc:testA s c=some b) (hx:b=true→HoldsR P x Q s) (hy:b=false→HoldsR P y Q s):HoldsR P (.cond c x y) Q s:=by
 intro C0 C m a w hS R hd
 have he:a.eval c = .bool b:=by
  have:=R.ev c
  unfold testA at hc
  split at hc<;>simp only [Option.some.injEq,reduceCtorEq] at hc
  rename_i b' hb
  rw [hb] at this
  rw [← hc]
  exact this.p_inv.bool_inv
 exact wpR_cond_split he (fun h=>hx h C0 C m a w hS R hd) (fun h=>hy h C0 C m a w hS R hd)
theorem ren1_range {n:Nat} {x:AV} (h:sc1 n x=true):ren1 (List.range n) x=x:=by
 have g:∀ k,k < n→(List.range n).getD k 0=k:=fun k hk=>by simp [List.getD,hk]
 cases x<;>simp only [ren1]<;>simp only [sc1,decide_eq_true_eq] at h<;>first|rfl|rw [g _ h]|cases h
theorem ren_range {n:Nat} {x:AV} (h:scA n x=true):Go.Pv.ren (List.range n) x=x:=by
 have gl:∀ l:List AV,l.all (sc1 n)=true→l.map (ren1 (List.range n))=l:=fun l hl=>by
  refine (List.map_congr_left fun y hy=>ren1_range ((List.all_eq_true.1 hl) y hy)).trans (List.map_id _)
 cases x with
 | agg l=>simp only [Go.Pv.ren]; rw [gl l h]
 | tup l=>simp only [Go.Pv.ren]; rw [gl l h]
 | cl f l=>simp only [Go.Pv.ren]; rw [gl l h]
 | yv k l vs =>
  simp only [scA,Bool.and_eq_true,decide_eq_true_eq] at h
  simp only [Go.Pv.ren]
  rw [gl l h.2]
  simp [List.getD,h.1]
 | dead=>exact ren1_range (n:=n) (x:=.dead) h
 | p v=>exact ren1_range (n:=n) (x:=.p v) h
 | sl k lo len=>exact ren1_range (n:=n) (x:=.sl k lo len) h
 | ptr k i=>exact ren1_range (n:=n) (x:=.ptr k i) h
 | mptr k=>exact ren1_range (n:=n) (x:=.mptr k) h
 | itv r=>exact ren1_range (n:=n) (x:=.itv r) h

def scH (H:Heap):Bool:=H.all fun | .own c=>c.all (scA H.length) | .anc _ _=>false | _=>true
theorem scH_get {H:Heap} (h:scH H=true) {k:Nat} {b:Blk} (hk:H[k]? = some b):(match b with | .own c=>c.all (scA H.length) | .anc _ _=>false | _=>true)=true:=by
 have:=(List.all_eq_true.1 h) _ (List.mem_of_getElem? hk)
 cases b<;>exact this

theorem LeH_of {π:List Nat} {H:Heap} : ∀ (H1:Heap) (ks:List Nat),ks.length=H1.length→(∀ (j:Nat) (b:Blk) (k:Nat),H1[j]? = some b→ks[j]? = some k→LeB π H k b)→LeH π H ks H1
 | [],[],_,_=>trivial
 | b :: r,k :: ks,hl,h=>⟨h 0 b k rfl rfl,LeH_of r ks (by simpa using hl) fun j b' k' h1 h2=>h (j + 1) b' k' (by simpa using h1) (by simpa using h2)⟩
 | [],_ :: _,hl,_=>by simp at hl
 | _ :: _,[],hl,_=>by simp at hl

theorem hget_of:∀ {H:Heap} {k:Nat} {b:Blk},H[k]? = some b→hget H k=b
 | [],k,b,h=>by simp at h
 | x :: r,0,b,h=>by simp at h; simp [hget,h]
 | x :: r,k + 1,b,h=>by
  have:=hget_of (H:=r) (k:=k) (b:=b) (by simpa using h)
  simpa [hget] using this

theorem LeH_id {H:Heap} (h:scH H=true):LeH (List.range H.length) H (List.range H.length) H:=by
 refine LeH_of H _ (by simp) fun j b k hj hk=>?_
 have hjl:=(List.getElem?_eq_some_iff.1 hj).1
 obtain rfl:k=j:=by simpa [hjl] using hk.symm
 have hg:=hget_of hj
 have hs:=scH_get h hj
 cases b with
 | own c =>
  simp only [LeB,hg]
  refine ⟨?_,by simpa using hs⟩
  rw [List.take_length]
  exact (List.map_congr_left fun y hy=>ren_range ((List.all_eq_true.1 hs) y hy)).trans (List.map_id _)
 | fro c=>exact hg
 | mp kk d v=>exact hg
 | lp r=>exact hg
 | dead=>trivial
 | anc i j=>cases hs

theorem putM_other:∀ (ks:List Nat) (bs H:Heap) (k:Nat),k ∉ ks→k < H.length→(putM H ks bs)[k]? = H[k]?
 | [],bs,H,k,_,hk=>by simp only [putM]; rw [List.getElem?_append_left hk]
 | k0 :: ks,[],H,k,_,_=>rfl
 | k0 :: ks,b0 :: bs,H,k,hn,hk=>by
  simp only [putM]
  rw [putM_other ks bs _ k (fun h=>hn (by simp [h])) (by rw [hset_length]; exact hk),hset_get,if_neg (fun h=>hn (by simp [h.1]))]
theorem putM_at:∀ (ks:List Nat) (bs H:Heap),ks.Nodup→(∀ k∈ks,k < H.length)→ks.length≤bs.length→∀ (j:Nat) {b:Blk} {k:Nat},bs[j]? = some b→(ks++List.range' H.length (bs.length - ks.length))[j]? = some k→(putM H ks bs)[k]? = some b
 | [],bs,H,_,_,_,j,b,k,h1,h2=>by
  have hj:=(List.getElem?_eq_some_iff.1 h1).1
  simp only [List.nil_append,List.length_nil,Nat.sub_zero] at h2
  rw [List.getElem?_range' hj] at h2
  simp only [Option.some.injEq,Nat.one_mul] at h2
  subst h2
  simp only [putM]
  rw [List.getElem?_append_right (by omega),Nat.add_sub_cancel_left]; exact h1
 | k0 :: ks,[],H,_,_,hl,j,b,k,h1,h2=>by simp at hl
 | k0 :: ks,b0 :: bs,H,hnd,hk,hl,0,b,k,h1,h2=>by
  simp at h1 h2
  subst h1 h2
  simp only [putM]
  rw [putM_other ks bs _ k0 (List.nodup_cons.1 hnd).1 (by rw [hset_length]; exact hk k0 (by simp)),hset_get,if_pos ⟨rfl,hk k0 (by simp)⟩]
 | k0 :: ks,b0 :: bs,H,hnd,hk,hl,j + 1,b,k,h1,h2=>by
  simp only [putM]
  refine putM_at ks bs _ (List.nodup_cons.1 hnd).2 (fun k hk'=>by rw [hset_length]; exact hk k (by simp [hk'])) (by simpa using hl) j (by simpa using h1) ?_
  rw [hset_length]
  simpa using h2

/-- THE STATEMENT 'for x := range f': a loop over a function with captured values. -/
theorem hr_range {go:Operand} {gs pp κ q n:Nat} {assign body:Code} {sl:List (Nat × AV)} {Hs0 Hf:Blk→Heap} {b:Bool} {gf:FuncId} {cap:List AV} {rv:AV} (π:List Nat) (hgo:go = .tmp gs) (hn:s.n=n)
  (h0:∀ r0,Le π ⟨n,(gs,.cl gf cap) :: sl,Hs0 (.lp r0)⟩ { s with H:=s.H++[.lp r0] }) (hπ:π.getD κ 0=s.H.length) (hκ:κ < q) (hs0:HoleQ κ Hs0) (hf:HoleQ κ Hf)
  (hcs:∀ r0,(scH (Hs0 (.lp r0)) && cap.all (scA (Hs0 (.lp r0)).length) && (envA n sl).all (sc1 q))=true) (hkl:keysLt n sl=true) (hgs:lk sl gs = .dead)
  (hsc:∀ r0 r1,scQ q rv (Hs0 (.lp r0)) (Hf (.lp r1))=true)
  (hit:∀ rec,RecOk rec n pp assign body→FnQ P q gf (.yv κ (envA n sl) rec.tmps :: cap) (Hs0 (.lp rec)) rv (Hf (.lp (recB b rec))))
  (h1:b=true→Q .normal ⟨n,sl,Hf .dead⟩) (h2:b=false→Q .ret ⟨n,sl,Hf .dead⟩):HoldsR P (.rangeFunc go #[pp] assign body) Q s:=by
 intro C0 C m a w hS R hd
 subst hgo
 refine wpIn_rangeFunc (F:=WF none) (n:=0) fun fn _=>?_
 obtain ⟨rec,hrec⟩:∃ rec:Loop,rec = { state:=.ready,pending:=none,fn,tmps:=a.tmps,params:=#[pp],assign,body,defers:=w.heap.size }:=⟨_,rfl⟩
 have hok:RecOk rec n pp assign body:=by rw [hrec]; exact ⟨rfl,rfl,rfl,rfl,rfl,by rw [← hn]; exact R.size⟩
 obtain ⟨W1,hW1⟩:∃ W1,(w.alloc (.deferred (some []))).alloc (.loop rec)=W1:=⟨_,rfl⟩
 have hsz1:W1.heap.size=w.heap.size + 2:=by rw [← hW1,World.size_alloc,World.size_alloc]
 have hL1:W1.heap[w.heap.size + 1]? = some (.loop rec):=by
  rw [← hW1]; have:=World.alloc_heap_new (w.alloc (.deferred (some []))) (.loop rec); rwa [World.size_alloc] at this
 have hK1:W1.heap[w.heap.size]? = some (.deferred (some [])):=by
  rw [← hW1]
  have h1:=(MapKept.heap_alloc (w.alloc (.deferred (some []))) (.loop rec)).2 w.heap.size (by rw [World.size_alloc]; omega)
  rw [h1]; exact World.alloc_heap_new w _
 have hbel:Below w.heap.size w W1:=by
  rw [← hW1]; exact (((Below.refl _ w).alloc (Nat.le_refl _) _).alloc (by rw [World.size_alloc]; omega) _)
 have R1:=R.later hbel
 have R2:=R1.addLp (g:=w.heap.size + 1) (r:=rec) (R.base _ (by omega)) hL1 fun k rr l hk hl e=>by
  obtain ⟨l',a1,a2,a3⟩:=R.mp.2.2.2.1 k rr hk
  rw [hl] at a1; cases a1
  have:=(Array.getElem?_eq_some_iff.1 a3).1
  omega
 have R3:=R2.weaken (h0 rec)
 generalize hm3:mren (mput m s.H.length (some ⟨w.heap.size + 1,0,0⟩)) π=m3 at R3
 have hmκ:m3 κ=some ⟨w.heap.size + 1,0,0⟩:=by
  have hl:κ < π.length:=by
   have:=((h0 rec).2.2.1.get).1
   have h2:=hs0.lt (.lp rec)
   simp only at this
   omega
  rw [← hm3]
  have e:π[κ]=s.H.length:=by simpa [List.getD,List.getElem?_eq_getElem hl] using hπ
  simp [mren,List.getElem?_eq_getElem hl,e,mput]
 have hc3:=hcs rec
 rw [Bool.and_eq_true,Bool.and_eq_true] at hc3
 obtain ⟨⟨hsc0,hcap⟩,henv⟩:=hc3
 obtain ⟨hq1,hq0,hna⟩:=scQ_parts (hsc rec (recB b rec))
 
 have hgv:∃ vs:Array Value,a.eval (.tmp gs) = .func (.func gf) #[] vs∧vs.size=cap.length∧∀ c (h:c < cap.length),AVal (Reads (OK C m3 (Hs0 (.lp rec)) W1) W1) m3 (Hs0 (.lp rec)) cap[c] (vs.getD c undef):=by
  have hv:AVal _ m3 (Hs0 (.lp rec)) (lk ((gs,.cl gf cap) :: sl) gs) (a.tmps.getD gs undef):=R3.slot gs
  simp only [lk,BEq.rfl,cond_true] at hv
  show ∃ vs:Array Value,a.tmps.getD gs undef=_∧_
  generalize a.tmps.getD gs undef=v at hv
  cases hv with
  | cl _ _ vs hl hr=>exact ⟨vs,rfl,hl,hr⟩
 obtain ⟨vs,hfe,hvl,hvr⟩:=hgv
 have hLe:=LeH_id hsc0
 have hlenv:(envA n sl).length=n:=envA_len n sl
 have hlk:∀ t,lk sl t = .dead∨(t < n∧sc1 q (lk sl t)=true):=fun t=>by
  by_cases ht:t < n
  ·refine .inr ⟨ht,?_⟩
   have:=(List.all_eq_true.1 henv) _ (List.getElem_mem (show t < (envA n sl).length by omega))
   rwa [envA_get] at this
  ·exact .inl (keysLt_lk hkl t (by omega))
 have hslot:∀ t,AVal (Reads (OK C m3 (Hs0 (.lp rec)) W1) W1) m3 (Hs0 (.lp rec)) (lk sl t) (a.tmps.getD t undef):=fun t=>by
  by_cases e:t=gs
  ·rw [e,hgs]; exact .dead _
  ·have hv:AVal _ m3 (Hs0 (.lp rec)) (lk ((gs,.cl gf cap) :: sl) t) (a.tmps.getD t undef):=R3.slot t
   simp only [lk] at hv
   rwa [show (gs == t)=false by simpa using Ne.symm e,cond_false] at hv
 have hscm:∀ {k k' : Nat} {x:AV},k≤k'→sc1 k x=true→sc1 k' x=true:=fun {k k' x} hkk h=>by
  cases x<;>simp only [sc1,decide_eq_true_eq] at h ⊢<;>first|omega|cases h
 have hscA:∀ {k:Nat} {x:AV},sc1 k x=true→scA k x=true:=fun {k x} h=>by
  cases x<;>first|exact h|(simp [sc1] at h)
 have hLl:(Hs0 (.lp rec)).length=(List.range (Hs0 (.lp rec)).length).length:=by simp
 have hrd:∀ p v,Reads (OK C m3 (Hs0 (.lp rec)) W1) W1 p v→Reads (OK (subC C m3 (Hs0 (.lp rec)) (List.range (Hs0 (.lp rec)).length) (Hs0 (.lp rec)) W1) (mren m3 (List.range (Hs0 (.lp rec)).length)) (Hs0 (.lp rec)) W1) W1 p v:=
  fun p v h=>h.mono (lend_ok (s:=⟨n,(gs,.cl gf cap) :: sl,Hs0 (.lp rec)⟩) hLe)
 have hun:∀ {x:AV} {v:Value},AVal (Reads (OK C m3 (Hs0 (.lp rec)) W1) W1) m3 (Hs0 (.lp rec)) x v→scA (Hs0 (.lp rec)).length x=true →
   AVal (Reads (OK (subC C m3 (Hs0 (.lp rec)) (List.range (Hs0 (.lp rec)).length) (Hs0 (.lp rec)) W1) (mren m3 (List.range (Hs0 (.lp rec)).length)) (Hs0 (.lp rec)) W1) W1) (mren m3 (List.range (Hs0 (.lp rec)).length)) (Hs0 (.lp rec)) x v:=fun {x v} hv hx=>by
  refine AVal.unren (π:=List.range (Hs0 (.lp rec)).length) (H:=Hs0 (.lp rec)) (m:=m3) hrd hLl ?_ (by rw [← hLl]; exact hx)
  rw [ren_range hx]; exact hv
 have hR0:=R3.lend (q:=q) (ks:=List.range (Hs0 (.lp rec)).length) (avs:=.yv κ (envA n sl) rec.tmps :: cap) (vals:=#[.func (.yield (w.heap.size + 1)) #[] #[]]++vs) hLe (List.nodup_range) hq0 hna (by simp [hvl]; omega) fun t ht=>by
  cases t with
  | zero =>
   have e1:((#[.func (.yield (w.heap.size + 1)) #[] #[]]++vs:Array Value)).getD 0 undef = .func (.yield (w.heap.size + 1)) #[] #[]:=by
    simp only [Array.getD_eq_getD_getElem?]
    rw [Array.getElem?_append_left (by simp)]; rfl
   rw [e1]
   refine hun (.yv _ _ _ _ (hs0.lt _) ⟨_,hmκ,rfl⟩ (by rw [hlenv]; exact hok.size) fun c hc=>?_) ?_
   ·rw [envA_get]
    have e2:rec.tmps=a.tmps:=by rw [hrec]
    rw [e2]; exact hslot c
   ·show (decide (κ < (Hs0 (.lp rec)).length) && (envA n sl).all (sc1 (Hs0 (.lp rec)).length))=true
    rw [Bool.and_eq_true,decide_eq_true_eq]
    exact ⟨hs0.lt _,List.all_eq_true.2 fun x hx=>hscm hq0 ((List.all_eq_true.1 henv) x hx)⟩
  | succ t =>
   have e1:((#[.func (.yield (w.heap.size + 1)) #[] #[]]++vs:Array Value)).getD (t + 1) undef=vs.getD t undef:=by
    simp only [Array.getD_eq_getD_getElem?]
    rw [Array.getElem?_append_right (by simp)]
    simp
   rw [e1]
   have ht2:t < cap.length:=by simpa using ht
   rw [List.getElem_cons_succ]
   exact hun (hvr t ht2) ((List.all_eq_true.1 hcap) _ (List.getElem_mem ht2))
 obtain ⟨⟨fn',hfn',hnm',hbd'⟩,hcalls⟩:=hit rec hok
 refine ⟨w.heap.size + 1,[{ target:=.collected w.heap.size,args:=#[] }],W1,{ target:=.fn (.func gf) vs,args:=#[.func (.yield (w.heap.size + 1)) #[] #[]] },W1,gf,
  #[.func (.yield (w.heap.size + 1)) #[] #[]]++vs,W1,?_,?_,fun _ _=>trivial,?_,(fun h=>by cases h),?_⟩
 ·rw [← hW1,hrec]; exact run_enterLoop_outer _ _ _ _ _
 ·simp only [resolve,hfe]
  simp [go_sem]
 ·have hnm2:¬ fn'.name = "runtime.NumGoroutine":=by simpa using hnm'
  have hbd2:¬ fn'.body=none:=by intro e; rw [e] at hbd'; simp at hbd'
  simp [invoke,callFunc,hfn',hnm2,hbd2]
 refine (callsIn_wide (n:=0)).2 ((hcalls _ _ W1 _ hR0).mono fun e w' ⟨v,m',he,R5⟩=>?_)
 subst he
 have hks' : ∀ k∈List.range (Hs0 (.lp rec)).length,k < (Hs0 (.lp rec)).length:=fun k hk=>by simpa using hk
 obtain ⟨m2,R6,_,hm2⟩:=R3.joinQ hLe hks' R5 (hsc rec (recB b rec))
 have hD:¬ (subC C m3 (Hs0 (.lp rec)) (List.range (Hs0 (.lp rec)).length) (Hs0 (.lp rec)) W1).B w.heap.size:=by
  rintro (h | ⟨j,b0,l,a1,a2,a3,a4⟩)
  ·omega
  ·have hj:=(List.getElem?_eq_some_iff.1 a1).1
   have a3:m3 j=some l:=by simpa [mren,hj] using a3
   rw [← a4] at hK1
   cases b0 with
   | own c =>
    rcases R3.blk j c a1 with ⟨_,hn⟩ | ⟨l',cur,e,c1,_,c2,_⟩
    ·rw [a3] at hn; cases hn
    ·rw [a3] at c1; cases c1
     rw [c2] at hK1; cases hK1
   | mp kk d v =>
    obtain ⟨l',ar,clk,vs,c1,_,c2,_⟩:=R3.mp.1 j kk d v a1
    rw [a3] at c1; cases c1
    rw [c2] at hK1; cases hK1
   | lp rr =>
    obtain ⟨l',c1,_,c2⟩:=R3.mp.2.2.2.1 j rr a1
    rw [a3] at c1; cases c1
    rw [c2] at hK1; cases hK1
   | _=>cases a2
 have hK5:w'.heap[w.heap.size]? = some (.deferred (some [])):=(R5.below.block _ hD).trans hK1
 
 generalize hσ:(List.range (Hs0 (.lp rec)).length).take q++List.range' (Hs0 (.lp rec)).length ((Hf (.lp (recB b rec))).length - q)=σ at R6
 have htk:(List.range (Hs0 (.lp rec)).length).take q=List.range q:=by rw [List.take_range,Nat.min_eq_left hq0]
 have hσl:σ.length=(Hf (.lp (recB b rec))).length:=by rw [← hσ,htk]; simp; omega
 have hσk:∀ k,k < q→σ.getD k 0=k:=fun k hk=>by
  rw [← hσ,htk]
  simp only [List.getD_eq_getElem?_getD]
  rw [List.getElem?_append_left (by simpa using hk)]
  simp [hk]
 have hσnd:σ.Nodup:=by
  rw [← hσ,htk]
  refine List.nodup_append.2 ⟨List.nodup_range,List.nodup_range',fun x hx y hy e=>?_⟩
  rw [List.mem_range] at hx
  rw [List.mem_range'_1] at hy
  omega
 have hσren:∀ {x:AV},sc1 q x=true→Go.Pv.ren σ x=x:=fun {x} hx=>by
  cases x<;>first|rfl|(simp only [sc1,decide_eq_true_eq] at hx; simp only [Go.Pv.ren,ren1]; rw [hσk _ hx])|(simp [sc1] at hx)
 have hput:∀ (j:Nat) (bb:Blk) (k:Nat),(Hf (.lp (recB b rec)))[j]? = some bb→σ[j]? = some k→(putM (kills (Hs0 (.lp rec)) ((List.range (Hs0 (.lp rec)).length).drop q)) ((List.range (Hs0 (.lp rec)).length).take q) ((Hf (.lp (recB b rec))).map (Blk.ren σ)))[k]? = some (Blk.ren σ bb):=by
  intro j bb k hj hk
  refine putM_at _ _ _ (by rw [htk]; exact List.nodup_range) (fun k hk=>by rw [kills_length]; rw [htk,List.mem_range] at hk; omega) (by rw [htk]; simp; omega) j (by rw [List.getElem?_map,hj]; rfl) ?_
  rw [kills_length,List.length_map,htk,List.length_range,← htk,hσ]
  exact hk
 have hsH:=hsc rec (recB b rec)
 unfold scQ at hsH
 rw [Bool.and_eq_true,Bool.and_eq_true,Bool.and_eq_true,Bool.and_eq_true,Bool.and_eq_true,Bool.and_eq_true] at hsH
 have hs2:=hsH.1.1.1.1.1.2
 have hLe2:LeH σ (putM (kills (Hs0 (.lp rec)) ((List.range (Hs0 (.lp rec)).length).drop q)) ((List.range (Hs0 (.lp rec)).length).take q) ((Hf (.lp (recB b rec))).map (Blk.ren σ))) σ (Hf (.lp (recB b rec))):=by
  refine LeH_of _ _ hσl fun j bb k hj hk=>?_
  have hg:=hget_of (hput j bb k hj hk)
  have hs:=(List.all_eq_true.1 hs2) _ (List.mem_of_getElem? hj)
  cases bb with
  | own c =>
   simp only [LeB,hg,Blk.ren]
   refine ⟨?_,by rw [hσl]; exact hs⟩
   rw [← List.length_map (f:=Go.Pv.ren σ),List.take_length]
  | fro c=>exact hg
  | mp kk d v=>exact hg
  | lp r=>exact hg
  | dead=>trivial
  | anc i j=>cases hs
 have R7:Rel C (mren m2 σ) ⟨n,[],Hf (.lp (recB b rec))⟩ a.tmps w':=R6.weaken (s1:=⟨n,[],Hf (.lp (recB b rec))⟩) ⟨rfl,hσnd,hLe2,trivial⟩
 have hlen7:(Hf (.lp (recB b rec))).length=σ.length:=hσl.symm
 have hoW:=OK.weaken (C:=C) (m:=m2) (w:=w') hLe2
 have R8:Rel C (mren m2 σ) ⟨n,sl,Hf (.lp (recB b rec))⟩ a.tmps w':=R7.reslot R7.size fun t=>by
  rcases hlk t with e | ⟨ht,hx⟩
  ·rw [e]; exact .dead _
  ·have hv:AVal _ m2 _ (lk ((gs,.cl gf cap) :: sl) t) (a.tmps.getD t undef):=R6.slot t
   by_cases e:t=gs
   ·rw [e,hgs]; exact .dead _
   ·simp only [lk] at hv
    rw [show (gs == t)=false by simpa using Ne.symm e,cond_false,← hσren hx] at hv
    exact hv.unren (fun p v h=>h.mono hoW) hlen7 (by rw [hσl]; exact hscA (hscm hq1 hx))
 
 have hm8:mren m2 σ κ=some ⟨w.heap.size + 1,0,0⟩:=by
  have h1:κ < σ.length:=by omega
  have h2:σ[κ]=κ:=by have:=hσk κ hκ; simpa [List.getD,List.getElem?_eq_getElem h1] using this
  simp only [mren,List.getElem?_eq_getElem h1,h2,Option.bind_some]
  rw [hm2 κ (hs0.lt _)]; exact hmκ
 obtain ⟨l8,e1,e2,e3⟩:=R8.mp.2.2.2.1 κ _ (hf.at_ _)
 rw [hm8] at e1; cases e1
 simp only at e3
 have hend:=run_endLoop (P:=P) e3 (by unfold recB; split<;>simp [hok.state])
 refine ⟨_,_,hend,?_⟩
 have R9:=(R8.setLp (r':={ recB b rec with state:=.exhausted }) (hf.at_ _) hm8)
 simp only [hf.set_] at R9
 have hkill:=Rel.kill (a:=a) R9 κ
 simp only [hf.set_] at hkill
 generalize hw4:w'.putObj (w.heap.size + 1) (.loop { recB b rec with state:=.exhausted })=w4 at R9 hkill ⊢
 have hK6:w4.heap[w.heap.size]? = some (.deferred (some [])):=by rw [← hw4]; exact (World.putObj_heap_other (by omega)).trans hK5
 have R10:=hkill.hold (fun x=>x=w.heap.size) (fun x hx=>by
  rw [hx]; exact ⟨(Array.getElem?_eq_some_iff.1 hK6).1,fun _ _ _ h=>by rw [hK6] at h; cases h⟩) (fun k kk d v l h hl hx=>by
  obtain ⟨l',ar,clk,vs,c1,_,c2,_⟩:=hkill.mp.1 k kk d v h
  rw [hl] at c1; cases c1
  rw [hx,hK6] at c2; cases c2) (fun x hx rr h=>by rw [hx,hK6] at h; cases h)
 have hS' : SubX (holdC C (fun x=>x=w.heap.size) w4) C0:=fun m s tmps w R=>hS _ _ _ _ (R.unhold hkill.below)
 have hC0B:C0.B w.heap.size:=(hS _ _ _ _ R).base _ (Nat.le_refl _)
 have hdfr:Dfr C0 (holdC C (fun x=>x=w.heap.size) w4) ({ target:=.collected w.heap.size,args:=#[] } :: a.defers):=by
  obtain ⟨d1,d2⟩:=hd
  refine ⟨List.nodup_cons.2 ⟨fun hmem=>?_,d1⟩,fun d hdm=>?_⟩
  ·obtain ⟨D,q1,_,_,q4⟩:=d2 _ hmem
   have:D=w.heap.size:=by cases q1; rfl
   have h1:=(Array.getElem?_eq_some_iff.1 q4).1
   have h2:=R.below.size
   omega
  ·rcases List.mem_cons.1 hdm with rfl | hdm
   ·exact ⟨_,rfl,hC0B,fun h=>h.2 rfl,hK6⟩
   ·obtain ⟨D,q1,q2,q3,q4⟩:=d2 _ hdm
    exact ⟨D,q1,q2,fun h=>q3 h.1,(hkill.below.block _ q3).trans q4⟩
 cases b with
 | true =>
  have hp:(recB true rec).pending=none:=hok.pending
  rw [hp]
  exact ⟨_,_,_,hS',h1 rfl,R10,hdfr⟩
 | false =>
  have hp:(recB false rec).pending=some .ret:=rfl
  rw [hp]
  exact wpR_ret ⟨_,_,_,hS',h2 rfl,R10,hdfr⟩

/-- On the way out: the marks are taken. -/
theorem leaves_marks {fn:Func} {s' : St} {m' : Map} {tmps:Array Value} {C0:Ctx} {R:Ending→World→Prop} : ∀ (ds:List Deferred) (w:World),Rel C0 m' s' tmps w→ds.Nodup→(∀ d∈ds,∃ D,d = { target:=.collected D,args:=#[] }∧C0.B D∧w.heap[D]? = some (.deferred (some []))) →
  (∀ w',Rel C0 m' s' tmps w'→∃ v,(results fn tmps).run P w' = .ok v w'∧R (.returned v) w')→LeavesInM Fence.wide 0 P fn tmps R ds .returning w
 | [],w,RR,_,_,hfin=>hfin w RR
 | d :: ds,w,RR,hnd,hds,hfin=>by
  obtain ⟨D,e1,e2,e3⟩:=hds d (by simp)
  refine ⟨by simp,.inl ⟨D,w.putObj D (.deferred none),by rw [e1],run_takeDeferred e3,?_⟩⟩
  refine leaves_marks ds _ (RR.setDef e2 e3) (List.nodup_cons.1 hnd).2 (fun d' hd'=>?_) hfin
  obtain ⟨D',f1,f2,f3⟩:=hds d' (by simp [hd'])
  refine ⟨D',f1,f2,?_⟩
  have hne:D' ≠ D:=fun e=>(List.nodup_cons.1 hnd).1 (by rw [e1,← e,← f1]; exact hd')
  rw [World.putObj_heap_other hne]; exact f3

theorem fnc_ofR (hT:∀ t ti,T t=some ti→tiOf P t=some ti) {f:FuncId} {fn:Func} {c:Code} {args:List PV} {r:PV} (hf:P.funcs[f]? = some fn) (hb:fn.body=some c) (hnm:(fn.name == "runtime.NumGoroutine")=false) (hn:args.length≤fn.ntmps)
  (h:HoldsR P c (Post T fn.results.toList r) (entry fn.ntmps args)):FnC P f args r:=by
 refine ⟨⟨fn,hf,hnm,by rw [hb]; rfl⟩,fun okA w vals hok hsz hrd=>(callsIn_wide (n:=0)).1 (callsIn_of_wp_marks hf hb trivial ?_)⟩
 have hslot:∀ t,(vals++Array.replicate (fn.ntmps - vals.size) undef).getD t undef=if t < vals.size then vals.getD t undef else undef:=by
  intro t
  simp only [Array.getD_eq_getD_getElem?]
  by_cases ht:t < vals.size
  ·rw [if_pos ht,Array.getElem?_append_left ht]
  ·rw [if_neg ht,Array.getElem?_append_right (by omega),Array.getElem?_replicate]
   split<;>rfl
 have R:Rel (fresh okA w) (fun _=>none) (entry fn.ntmps args) (vals++Array.replicate (fn.ntmps - vals.size) undef) w:=by
  have hOK:∀ b,okA b→OK (fresh okA w) (fun _=>none) [] w b:=fun b hb=>⟨.inl hb,hok.1 b hb,fun k c l h=>by simp at h⟩
  refine ⟨fun g l hg=>(hok.2 g l hg).mono hOK,BelowP.refl _ _,fun _ h=>h,by simp [entry]; omega,fun k k' c c' l l' h=>by simp [entry] at h,fun k c h=>by simp [entry] at h,fun k c h=>by simp [entry] at h,fun t=>?_,fun k kk d v h=>by simp [entry] at h,fun k k' kk d v kk' d' v' l l' h=>by simp [entry] at h,fun k i j h=>by simp [entry] at h,fun k r h=>by simp [entry] at h,fun k k' r r' l l' h=>by simp [entry] at h⟩
  rw [hslot]
  unfold St.get entry
  simp only
  rw [ent_lk]
  simp only [Nat.zero_le,if_true,Nat.sub_zero]
  by_cases ht:t < args.length
  ·rw [List.getElem?_eq_getElem ht,if_pos (by omega)]
   exact .p _ _ ((hrd t ht).mono hOK)
  ·rw [List.getElem?_eq_none (by omega)]
   exact .dead _
 refine wpR_mono (r:=none) (h _ _ _ { tmps:=vals++Array.replicate (fn.ntmps - vals.size) undef,defers:=[] } w (fun _ _ _ _ R=>R) R ⟨List.nodup_nil,fun d h=>by cases h⟩) fun e a' w' ⟨C',s',m',hS,h1,h2,h3⟩=>?_
 have R0:=hS _ _ _ _ h2
 have key:endA T fn.results.toList r s'→LeavesInM Fence.wide 0 P fn a'.tmps (fun e w'=>∃ v,e = .returned v∧Below w.heap.size w w'∧Reads (okN okA w w') w' r v) a'.defers .returning w':=fun he=>by
  refine leaves_marks (s':=s') (m':=m') a'.defers w' R0 h3.1 (fun d hd=>?_) fun w2 R2=>?_
  ·obtain ⟨D,q1,q2,q3,q4⟩:=h3.2 d hd
   exact ⟨D,q1,q2,(h2.below.block _ q3).trans q4⟩
  ·unfold endA at he
   split at he
   ·rename_i p l hl
    split at he
    ·rename_i q pv b hpk
     obtain ⟨hp,hq,rfl⟩:=he
     obtain ⟨vs,e1,e2,e3⟩:=rvsA_run hT R2 fn.results.toList hl hp
     have hv:=mkTup_val (w:=w2) e2 e3
     have hpv:=peekA_val R2 hv hpk hq
     refine ⟨_,?_,_,rfl,R2.below.below (fun _ h=>h),norm_reads hpv.1⟩
     rw [results_eq,Array.mapM_eq_mapM_toList]
     simp only [Sem.run_bind,Sem.run_map]
     rw [e1]
     simp only [Result.andThen_ok]
     rfl
    ·exact he.elim
   ·exact he.elim
 cases e with
 | normal=>exact key h1
 | ret=>exact key h1
 | _=>exact h1.elim
end
end Go.Pv

/-
  Calls that hand out fresh rows of plain values; functions with captured rows of the call's own. Conditions: none.
-/
set_option linter.all false
namespace Go.Pv
open Go.RowKit

section
variable {P:Program} {s:St}

/-- A contract whose result lies in memory that is new: whatever the arguments may be. -/
def FnF (P:Program) (f:FuncId) (args:List PV) (r:PV):Prop:=
 Fun P f∧∀ (okA:Nat→Prop) (w:World) (vals:Array Value),LaidW okA w→vals.size=args.length→(∀ i (h:i < args.length),Reads okA w args[i] (vals.getD i undef)) →
  Calls P f vals w fun e w'=>∃ v,e = .returned v∧Go.Pv.Below w.heap.size w w'∧Reads (fun b=>w.heap.size≤b∧b < w'.heap.size) w' r v

/-- Plain data: no memory. -/
def PV.sc:PV→Bool
 | .int _ _=>true
 | .bool _=>true
 | .str _=>true
 | _=>false

theorem sc_reads {ok ok' : Nat→Prop} {w:World} {p:PV} {v:Value} (h:Reads ok w p v) (hs:p.sc=true):Reads ok' w p v:=by
 cases h<;>simp [PV.sc] at hs
 ·exact .int _ _
 ·exact .bool _
 ·exact .str _

theorem FnG_fnf {f:FuncId} {args l:List PV} (h:FnG P f args (.sl 0 0 l.length) [.own (opl l)]) (hsc:l.all PV.sc=true):FnF P f args (.list l):=by
 have hone:l.all PV.one=true:=List.all_eq_true.2 fun x hx=>by
  have:=(List.all_eq_true.1 hsc) x hx
  cases x<;>simp [PV.sc] at this<;>rfl
 refine ⟨h.1,fun okA w vals h1 h2 h3=>(h.2 okA w vals h1 h2 h3).mono fun e w' ⟨v,m',he,hbl,ho⟩=>⟨v,he,hbl,?_⟩⟩
 cases ho.val with
 | sl _ _ _ _ hk hs =>
  rcases hs with ⟨h0,ad,rfl⟩ | ⟨lc,cap,hm,rfl,hc1,hc2⟩
  ·have:l=[]:=List.eq_nil_of_length_eq_zero h0
   subst this
   exact .list0 _ _ fun _=>rfl
  ·rcases ho.blk 0 (opl l) rfl with ⟨hn,_⟩ | ⟨l',cur,e',hm2,hB,hh,hs1,hs3,hs2,hcells⟩
   ·have:l=[]:=List.map_eq_nil_iff.1 hn
    subst this
    exact .list0 _ _ fun h=>by cases h
   ·rw [hm] at hm2; cases hm2
    rw [opl_length] at hs2
    refine row_reads rfl hone ⟨hB,(Array.getElem?_eq_some_iff.1 hh).1⟩ hc1 (fun j=>cur.getD (lc.o + j) undef) (fun j hj=>?_) fun j hj=>?_
    ·have:lc.o + 0 + j=lc.o + j:=by omega
     rw [this]; exact cell_of hh (by omega)
    ·have:=hcells j (by rw [opl_length]; exact hj)
     have e2:(opl l)[j]'(by rw [opl_length]; exact hj) = .p l[j]:=by simp [opl]
     rw [e2] at this
     exact sc_reads this.p_inv ((List.all_eq_true.1 hsc) _ (List.getElem_mem hj))

theorem call_doesF {o:Oper} {fo:Operand} {args:Array Operand} {ts:Array TypeId} (ho:o.op = .call { callee:=.value fo,args:=args,argTypes:=ts }) {g:FuncId} {avs:List PV} {p:Prop} {b:Bool} {r:PV}
  (hc:FnF P g avs r) (hcall:callA s fo args=some (g,avs,p,b)) (hp:p):DoesW P o s (.p r) s.H:=by
 intro C m a w K Q R hK
 unfold callA at hcall
 split at hcall
 ·rename_i g' cap hf
  split at hcall<;>simp only [Option.some.injEq,Prod.mk.injEq,reduceCtorEq] at hcall
  rename_i p' pvs b' hpl
  obtain ⟨rfl,rfl,rfl,rfl⟩:=hcall
  have hfv:=R.ev fo
  rw [hf] at hfv
  generalize hfe:a.eval fo=fv at hfv
  have hfv:=hfv.p_inv
  cases hfv with
  | fn _ _ vs hcl hcr =>
   obtain ⟨⟨fn,hfn,hnm,hbd⟩,hcalls⟩:=hc
   obtain ⟨e1,e2,e3⟩:=peekList_val (C:=C) (m:=m) (w:=w) (H:=s.H) (fun {x v p pv b} (hx:AVal (Reads (OK C m s.H w) w) m s.H x v) h hp=>peekG_val R hx h hp) (args.toList.map s.ev) (fun c=>(args.toList.map a.eval).getD c undef) (fun c hc=>by
    simp only [List.length_map] at hc
    have:=R.ev (args.toList[c])
    simpa [List.getD,List.getElem?_map,List.getElem?_eq_getElem hc] using this) hpl hp
   simp only [List.length_map] at e1
   have hvals:∀ i (h:i < (pvs++cap).length),(args.map a.eval++vs).getD i undef=if i < pvs.length then (args.toList.map a.eval).getD i undef else vs.getD (i - pvs.length) undef:=by
    intro i hi
    simp only [Array.getD_eq_getD_getElem?]
    by_cases hip:i < pvs.length
    ·rw [if_pos hip,Array.getElem?_append_left (by simp at e1 ⊢; omega)]
     simp [List.getD]
    ·rw [if_neg hip,Array.getElem?_append_right (by simp at e1 ⊢; omega)]
     congr 2
     simp at e1 ⊢; omega
   have hrun:(execOp a.eval o).run P w = .ok (.enter g' (args.map a.eval++vs)) w:=by
    have hnm' : ¬ fn.name = "runtime.NumGoroutine":=by simpa using hnm
    have hbd' : ¬ fn.body=none:=by intro e; rw [e] at hbd; simp at hbd
    simp [execOp,ho,resolve,hfe,Deferred.ofValue,invoke,callFunc,hfn,hnm',hbd']
   refine opR_of_wp (by first|rfl|(rw [ho]; rfl)) ?_
   unfold Oper.wp
   rw [hrun]
   simp only [Oper.upon]
   have hsz:(args.map a.eval++vs).size=(pvs++cap).length:=by simp at e1 ⊢; omega
   refine (hcalls (fun b=>b < w.heap.size) w _ R.laidLt hsz fun i hi=>?_).mono fun e w' ⟨v,he,hbl,hv⟩=>?_
   ·rw [hvals i hi]
    by_cases hip:i < pvs.length
    ·rw [if_pos hip,List.getElem_append_left hip]; exact (e2 i hip).mono fun b hb=>hb.2
    ·rw [if_neg hip,List.getElem_append_right (by omega)]; exact (hcr _ (by simp at hi; omega)).mono fun b hb=>hb.2.1
   ·subst he
    refine hK v m w' (R.later hbl) (.p _ _ (hv.mono fun b hb=>⟨.inr (R.base _ hb.1),hb.2,fun k c l hk hl e'=>?_⟩))
    have:=(R.wrLt hk rfl hl).2
    have:=hb.1
    omega
 ·cases hcall

theorem call_locF {o:Oper} {fo:Operand} {args:Array Operand} {ts:Array TypeId} (ho:o.op = .call { callee:=.value fo,args:=args,argTypes:=ts }) {g:FuncId} {avs:List PV} {p:Prop} {b:Bool} {r:PV}
  (hc:FnF P g avs r) (hcall:callA s fo args=some (g,avs,p,b)) (hp:p):Loc1 P o s (.p r) s.H:=by
 refine ⟨fun s2 hn ha hH=>?_,fun hf=>?_,fun _=>rfl⟩
 ·have:=callA_congr (ts:=ts) (s:=s) (s2:=s2) (fo:=fo) (args:=args) (by rw [← ho]; exact ha) hH
  rw [hcall] at this
  rw [← hH]
  exact call_doesF ho hc this hp
 ·rw [ho] at hf; simp [isT] at hf

theorem runs_callF {draw:Bool} {all:Array Oper} {rest:List Oper} {K:St→Prop} {dst:Option Tmp} {ty:TypeId} {pos:String} {aft:Array Edge} {gd:Option (Nat × Bool)} {fo:Operand} {args:Array Operand} {ts:Array TypeId} {g:FuncId} {avs:List PV} {p:Prop} {b:Bool} {r:PV}
  (hc:FnF P g avs r) (hg:guardA all s { dst:=dst,op:=.call { callee:=.value fo,args:=args,argTypes:=ts },type:=ty,pos:=pos,after:=aft,guard:=gd } = some true)
  (hcall:callA s fo args=some (g,avs,p,b)) (hd:dstOk s dst) (hp:p) (h:Runs P draw all rest K (s.put dst (.p r))) :
  Runs P draw all ({ dst:=dst,op:=.call { callee:=.value fo,args:=args,argTypes:=ts },type:=ty,pos:=pos,after:=aft,guard:=gd } :: rest) K s:=by
 obtain ⟨s',hr,hK⟩:=h
 exact ⟨s',.cons (.op s (.p r) s.H hg (dstOk_spec hd) (call_doesF rfl hc hcall hp) fun _=>call_locF rfl hc hcall hp) hr,hK⟩

end

/-- A function with captured values, of whatever make. -/
theorem makeCl_does {P:Program} {s:St} {o:Oper} {f:FuncId} {first:Array Operand} {caps:Array Operand} (ho:o.op = .makeFunc (.func f) first caps) (hf:first.isEmpty=true):DoesW P o s (.cl f (caps.toList.map s.ev)) s.H:=by
 intro C m a w K Q R hK
 have hfe:first = #[]:=by simpa using hf
 have hrun:(execOp a.eval o).run P w = .ok (.value (.func (.func f) #[] (caps.map a.eval))) w:=by
  simp [execOp,ho,hfe,Instr.makeFunc]
 refine opR_of_wp (by first|rfl|(rw [ho]; rfl)) ?_
 unfold Oper.wp
 rw [hrun]
 refine hK _ m w R (.cl _ _ _ (by simp) fun c hc=>?_)
 have hc' : c < caps.size:=by simpa using hc
 have e1:(caps.map a.eval).getD c undef=a.eval caps[c]:=by simp [Array.getD_eq_getD_getElem?,hc']
 have e2:(caps.toList.map s.ev)[c]=s.ev caps[c]:=by simp
 rw [e1,e2]
 exact R.ev _
end Go.Pv
namespace Go.Proofs.YtboadfahlflmhaaDoor
open Go.Pv

theorem ol_oplF (w:List Int):ol w=opl (il w):=rfl
theorem il_scal (l:List Int):(il l).all PV.sc=true:=by simp [il,PV.sc]

theorem those_g (n:Nat) (m:List Int) (F:FuncId) (caps:List PV) (p:Nat→Bool) (hn:n≤1000000) (hF:∀ a,a < n→FnC Tryd.prog F (.int .i64 a :: caps) (.bool (p a))):FnG Tryd.prog 40 [gp n m,.fn F caps] (.sl 0 0 (il (thl n p)).length) [.own (opl (il (thl n p)))]:=by
 refine fng_of tab_ok Tryd.func40 rfl (by kernel_rfl) (by rw [Tryd.ntmps40]; exact Nat.le_add_left 2 _) ?_; rw [Tryd.ntmps40]
 refine qm ?_
 refine hk_region fun K hK=>runs_eval tab_ok ?_
 simp only [ev0,evA,evB,evP,fl,gp,tab,simprocAttr,reduceCtorEq,reduceIte]
 refine fin_run ?_ (hK _ ?_)<;>clear hK<;>clear K
 ·(first|exact trivial|omega|(simp only [In64] at *; omega)|(simp [In64] at *; omega)|(simp_all; done)|skip)
 refine qa (qm ?_)
 refine hk_region fun K hK=>runs_eval tab_ok ?_
 simp only [ev0,evA,evB,evP,fl,gp,tab,simprocAttr,reduceCtorEq,reduceIte]
 refine fin_run trivial (hK _ ?_)<;>clear hK<;>clear K
 refine qa (qm (qm ?_))
 refine hk_region fun K hK=>runs_eval tab_ok ?_
 simp only [ev0,evA,evB,evP,fl,gp,tab,simprocAttr,reduceCtorEq,reduceIte]
 refine fin_run trivial (hK _ ?_)<;>clear hK<;>clear K
 refine qa (ql ?_)
 refine hk_own0 5 rfl ?_
 refine hk_loop (ι:=Nat) (fun i=>⟨21,[(1,.p (.fn F caps)),(2,.ptr 0 0),(5,.sl 1 0 (thl i p).length),(6,.p (.int .i64 i))],[.own [.p (.int .i64 n),.p (.list (il m))],.own (ol (thl i p))]⟩) (fun i=>i≤n) (fun i=>n - i) 0 (Nat.zero_le _) [0,1] (by simp only [leq,leA,ev0,evA,evB,evP,fl,gp,tab,simprocAttr,reduceCtorEq,reduceIte]<;>simp [thl,thn',ol_nil]) fun i hi=>?_
 have hl:=thl_le i p
 refine qm (qm ?_)
 refine hk_region fun K hK=>runs_eval tab_ok ?_
 simp only [ev0,evA,evB,evP,fl,gp,tab,simprocAttr,reduceCtorEq,reduceIte]
 refine fin_run ?_ (hK _ ?_)<;>clear hK<;>clear K
 ·(first|exact trivial|omega|(simp only [In64] at *; omega)|(simp [In64] at *; omega)|(simp_all; done)|skip)
 refine qa ?_
 refine hk_cond rfl (fun hC1=>?_) (fun hC1=>?_)
 ·(try simp only [nhs] at hC1)
  have hlt:i < n:=by omega
  have hs:=thl_succ i p
  refine qh (qa (qm (ql (qm ?_))))
  refine hk_region fun K hK=>runs_eval tab_ok ?_
  simp only [ev0,evA,evB,evP,fl,gp,tab,simprocAttr,reduceCtorEq,reduceIte]
  refine fin_stop trivial (runs_call (hF i hlt) rfl rfl rfl (by simp only [dstOk,Nat.reduceLT]) (by repeat (first|exact trivial|constructor)) (runs_eval tab_ok ?_))
  simp only [ev0,evA,evB,evP,fl,gp,tab,simprocAttr,reduceCtorEq,reduceIte]
  refine fin_run trivial (hK _ ?_)<;>clear hK<;>clear K
  refine qa ?_
  refine hk_cond rfl (fun hC2=>?_) (fun hC2=>?_)
  ·(try simp only [nhs] at hC2)
   rw [if_pos hC2] at hs
   refine hk_region fun K hK=>runs_eval tab_ok ?_
   simp only [ev0,evA,evB,evP,fl,gp,tab,simprocAttr,reduceCtorEq,reduceIte]
   refine fin_run ?_ (hK _ ?_)<;>clear hK<;>clear K
   ·(first|exact trivial|omega|(simp only [In64] at *; omega)|(simp [In64] at *; omega)|(simp_all; done)|skip)
   refine qd (qa ?_)
   refine hk_region fun K hK=>runs_eval tab_ok ?_
   simp only [ev0,evA,evB,evP,fl,gp,tab,simprocAttr,reduceCtorEq,reduceIte]
   refine fin_run ?_ (hK _ ?_)<;>clear hK<;>clear K
   ·(first|exact trivial|omega|(simp only [In64] at *; omega)|(simp [In64] at *; omega)|(simp_all; done)|skip)
   refine qa ?_
   refine ⟨i + 1,[0,2],by omega,by omega,?_⟩
   rw [hs]
   simp only [leq,leA,ev0,evA,evB,evP,fl,gp,tab,simprocAttr,reduceCtorEq,reduceIte]<;>first|trivial|omega
  ·(try simp only [nhs] at hC2)
   rw [if_neg (by rw [hC2]; simp)] at hs
   refine qh (qd (qa ?_))
   refine hk_region fun K hK=>runs_eval tab_ok ?_
   simp only [ev0,evA,evB,evP,fl,gp,tab,simprocAttr,reduceCtorEq,reduceIte]
   refine fin_run ?_ (hK _ ?_)<;>clear hK<;>clear K
   ·(first|exact trivial|omega|(simp only [In64] at *; omega)|(simp [In64] at *; omega)|(simp_all; done)|skip)
   refine qa ?_
   refine ⟨i + 1,[0,1],by omega,by omega,?_⟩
   rw [hs,List.append_nil]
   simp only [leq,leA,ev0,evA,evB,evP,fl,gp,tab,simprocAttr,reduceCtorEq,reduceIte]<;>first|trivial|omega
 ·(try simp only [nhs] at hC1)
  have hin:i=n:=by omega
  subst hin
  refine qj (qc (qc (qf (qa (qm ?_)))))
  refine hk_region fun K hK=>runs_eval tab_ok ?_
  simp only [ev0,evA,evB,evP,fl,gp,tab,simprocAttr,reduceCtorEq,reduceIte]
  refine fin_run trivial (hK _ ?_)<;>clear hK<;>clear K
  refine qa (qk ?_)
  simp only [Tryd.results40,PostG,endG,rvsA,rvA,mkTup,ev0,evA,evB,evP,fl,gp,tab,simprocAttr,reduceCtorEq,reduceIte]
  all_goals (exact ⟨[1],rfl,rfl,rfl,by simp,⟨⟨by rw [← ol_oplF,ol_ren,take_len],opl_sc _ _⟩,trivial⟩,trivial⟩)

end Go.Proofs.YtboadfahlflmhaaDoor
