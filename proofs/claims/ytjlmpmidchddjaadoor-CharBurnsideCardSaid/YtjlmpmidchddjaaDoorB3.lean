/-
  Texts of this proof, one behind the other: what each says stands at its head. Conditions: none.
-/
import Derived.Test.YtjlmpmidchddjaaDoorB2
import Derived.Test.YtjlmpmidchddjaaDoorProg
set_option linter.all false
namespace Go.Proofs.YtjlmpmidchddjaaDoor
open Go.Pv
def bO (p:Nat→Bool) (n:Nat):Option Nat:=(List.range n).find? p
theorem dc {p:Nat→Bool} {n a:Nat} (ha:a < n) (hp:p a=true) (hj:∀ j,j < a→p j=false):bO p n=some a:=by
 unfold bO
 rw [List.find?_range_eq_some]
 exact ⟨hp,by simp [ha],fun j hj'=>by simp [hj j hj']⟩
theorem ep {p:Nat→Bool} {n:Nat} (hj:∀ j,j < n→p j=false):bO p n=none:=by
 unfold bO
 rw [List.find?_eq_none]
 intro x hx
 simp [hj x (by simpa using hx)]
theorem cE {p:Nat→Bool} {n a:Nat} (h:bO p n=some a):a < n∧p a=true∧∀ j,j < a→p j=false:=by
 unfold bO at h
 rw [List.find?_range_eq_some] at h
 exact ⟨by simpa using h.2.1,h.1,fun j hj=>by simpa using h.2.2 j hj⟩
theorem ca {p:Nat→Bool} {n:Nat} (h:bO p n=none):∀ j,j < n→p j=false:=by
 unfold bO at h
 rw [List.find?_eq_none] at h
 intro j hj
 simpa using h j (by simpa using hj)
theorem sb {l:List Nat} {n:Nat} (h:l.Nodup) (hl:∀ x∈l,x < n):l.length≤n:=by
 have:=List.Nodup.length_le_of_subset h (l₂:=List.range n) fun x hx=>by simpa using hl x hx
 simpa using this
theorem gQ {α β:Type} {f:α→β} {l:List α} (h:l.Nodup) (hf:∀ x∈l,∀ y∈l,f x=f y→x=y):(l.map f).Nodup:=by
 induction l with
 | nil=>simp
 | cons a r ih =>
  rw [List.nodup_cons] at h
  rw [List.map_cons,List.nodup_cons]
  refine ⟨fun hm=>?_,ih h.2 fun x hx y hy=>hf x (by simp [hx]) y (by simp [hy])⟩
  obtain ⟨y,hy,e⟩:=List.mem_map.1 hm
  have:=hf y (by simp [hy]) a (by simp) e
  subst this
  exact h.1 hy
theorem gm {α:Type} {l1 l2:List α} (h1:l1.Nodup) (h2:l2.Nodup) (h:∀ x,x∈l1↔x∈l2):l1.length=l2.length:=
 ((List.perm_ext_iff_of_nodup h1 h2).2 h).length_eq
theorem so {n:Nat} {f:Nat→Nat} (hf:∀ i,i < n→f i < n) (hi:∀ i j,i < n→j < n→f i=f j→i=j) {y:Nat} (hy:y < n):∃ x,x < n∧f x=y:=by
 by_cases h:∃ x,x < n∧f x=y
 ·exact h
 exfalso
 have h1:((List.range n).map f).Nodup:=gQ List.nodup_range fun x hx z hz=>hi x z (by simpa using hx) (by simpa using hz)
 have h2:(y :: (List.range n).map f).Nodup:=by
  rw [List.nodup_cons]
  refine ⟨fun hm=>?_,h1⟩
  obtain ⟨x,hx,e⟩:=List.mem_map.1 hm
  exact h ⟨x,by simpa using hx,e⟩
 have:=sb (n:=n) h2 fun x hx=>by
  rcases List.mem_cons.1 hx with rfl | hx
  ·exact hy
  obtain ⟨z,hz,rfl⟩:=List.mem_map.1 hx
  exact hf z (by simpa using hz)
 simp at this
 omega
theorem yH {n : Nat} {f : Nat → Nat} (hf : ∀ i, i ≤ n → f i < n) : ∃ i j, i < j ∧ j ≤ n ∧ f i = f j := by
  by_cases h : ∃ i j, i < j ∧ j ≤ n ∧ f i = f j
  · exact h
  · exfalso
    have h1 : ((List.range (n + 1)).map f).Nodup := gQ List.nodup_range fun x hx z hz e => by
      have hx : x < n + 1 := by simpa using hx
      have hz : z < n + 1 := by simpa using hz
      rcases Nat.lt_trichotomy x z with hlt | he | hlt
      · exact absurd ⟨x, z, hlt, by omega, e⟩ h
      · exact he
      · exact absurd ⟨z, x, hlt, by omega, e.symm⟩ h
    have := sb (n := n) h1 fun x hx => by
      obtain ⟨z, hz, rfl⟩ := List.mem_map.1 hx
      exact hf z (by have : z < n + 1 := by simpa using hz
                     omega)
    simp at this
    omega
theorem Bt {α:Type} {k:Nat} {r:α→α→Bool} : ∀ (n:Nat) (l:List α),l.length=n→l.Nodup→(∀ x∈l,r x x=true)→(∀ x∈l,∀ y∈l,r x y=true→r y x=true) →
  (∀ x∈l,∀ y∈l,∀ z∈l,r x y=true→r y z=true→r x z=true)→(∀ x∈l,(l.filter (r x)).length=k)→k ∣ l.length:=by
 intro n
 induction n using Nat.strongRecOn with
 | _ n ih =>
  intro l hn hnd hr hs ht hk
  cases l with
  | nil=>exact ⟨0,rfl⟩
  | cons a t =>
   have hsplit:(a :: t).length=((a :: t).filter (r a)).length + ((a :: t).filter (fun x=>!r a x)).length:=by
    have:=List.length_eq_countP_add_countP (r a) (l:=a :: t)
    simp only [List.countP_eq_length_filter] at this
    rw [this]
    congr 3
    funext x
    cases r a x<;>simp
   have hka:=hk a (by simp)
   have hmem:∀ x,x∈(a :: t).filter (fun x=>!r a x)↔x∈a :: t∧r a x=false:=by
    intro x; rw [List.mem_filter]; simp
   have hpos:0 < ((a :: t).filter (r a)).length:=by
    apply List.length_pos_of_mem (a:=a)
    rw [List.mem_filter]
    exact ⟨by simp,hr a (by simp)⟩
   have hrec:=ih ((a :: t).filter (fun x=>!r a x)).length (by omega) _ rfl (hnd.filter _) (fun x hx=>hr x ((hmem x).1 hx).1)
    (fun x hx y hy=>hs x ((hmem x).1 hx).1 y ((hmem y).1 hy).1)
    (fun x hx y hy z hz=>ht x ((hmem x).1 hx).1 y ((hmem y).1 hy).1 z ((hmem z).1 hz).1)
    (fun x hx=>by
     obtain ⟨hx1,hx2⟩:=(hmem x).1 hx
     rw [← hk x hx1,List.filter_filter]
     congr 1
     apply List.filter_congr
     intro y hy
     cases hxy:r x y
     ·simp
     have:r a y=false:=by
      cases hay:r a y
      ·rfl
      have h1:=hs x hx1 y hy hxy
      have:=ht a (by simp) y hy x hx1 hay h1
      rw [hx2] at this; cases this
     simp [this])
   rw [hsplit,hka]
   exact Nat.dvd_add (Nat.dvd_refl k) hrec
structure dF (n:Nat) (f:Nat→Nat→Nat) (e:Nat):Prop where
 pos:0 < n
 cl:∀ a b,a < n→b < n→f a b < n
 el:e < n
 one_l:∀ a,a < n→f e a=a
 one_r:∀ a,a < n→f a e=a
 assoc:∀ a b c,a < n→b < n→c < n→f (f a b) c=f a (f b c)
 inv:∀ a,a < n→∃ b,b < n∧f a b=e∧f b a=e
def iv (n:Nat) (f:Nat→Nat→Nat) (e a:Nat):Nat:=(bO (fun b=>decide (f a b=e)) n).getD 0
def pw (f:Nat→Nat→Nat) (e a:Nat):Nat→Nat
 | 0=>e
 | k + 1=>f (pw f e a k) a
def ord (n:Nat) (f:Nat→Nat→Nat) (e a:Nat):Nat:=(bO (fun k=>decide (1≤k∧pw f e a k=e)) (n + 1)).getD 0
section
variable {n:Nat} {f:Nat→Nat→Nat} {e:Nat}
theorem dF.gw (G:dF n f e) {a b c:Nat} (ha:a < n) (hb:b < n) (hc:c < n) (h:f a b=f a c):b=c:=by
 obtain ⟨i,hi,_,h2⟩:=G.inv a ha
 have h1:f i (f a b)=f i (f a c):=by rw [h]
 rwa [← G.assoc i a b hi ha hb,← G.assoc i a c hi ha hc,h2,G.one_l b hb,G.one_l c hc] at h1
theorem dF.oA (G:dF n f e) {a b c:Nat} (ha:a < n) (hb:b < n) (hc:c < n) (h:f b a=f c a):b=c:=by
 obtain ⟨i,hi,h2,_⟩:=G.inv a ha
 have h1:f (f b a) i=f (f c a) i:=by rw [h]
 rwa [G.assoc b a i hb ha hi,G.assoc c a i hc ha hi,h2,G.one_r b hb,G.one_r c hc] at h1
theorem dF.lE (G:dF n f e) {a:Nat} (ha:a < n):iv n f e a < n∧f a (iv n f e a)=e∧f (iv n f e a) a=e∧∀ b,b < n→(f a b=e∨f b a=e)→b=iv n f e a:=by
 obtain ⟨b,hb,h1,h2⟩:=G.inv a ha
 have hu:∀ c,c < n→(f a c=e∨f c a=e)→c=b:=by
  intro c hc h
  rcases h with h | h
  ·exact G.gw ha hc hb (by rw [h,h1])
  exact G.oA ha hc hb (by rw [h,h2])
 have hfs:bO (fun b=>decide (f a b=e)) n=some b:=dc hb (by simp [h1]) fun j hj=>by
  by_cases hj2:f a j=e
  ·have:=hu j (by omega) (.inl hj2); omega
  simp [hj2]
 have:iv n f e a=b:=by unfold iv; rw [hfs]; rfl
 rw [this]
 exact ⟨hb,h1,h2,hu⟩
theorem dF.az (G:dF n f e) {a:Nat} (ha:a < n):iv n f e a < n:=(G.lE ha).1
theorem dF.eC (G:dF n f e) {a:Nat} (ha:a < n):f a (iv n f e a)=e:=(G.lE ha).2.1
theorem dF.eb (G:dF n f e) {a:Nat} (ha:a < n):f (iv n f e a) a=e:=(G.lE ha).2.2.1
theorem dF.eD (G:dF n f e) {a b:Nat} (ha:a < n) (hb:b < n) (h:f a b=e∨f b a=e):b=iv n f e a:=(G.lE ha).2.2.2 b hb h
theorem dF.cN (G:dF n f e) {a:Nat} (ha:a < n):iv n f e (iv n f e a)=a:=(G.eD (G.az ha) ha (.inl (G.eb ha))).symm
theorem dF.bM (G:dF n f e) {a b:Nat} (ha:a < n) (hb:b < n):iv n f e (f a b)=f (iv n f e b) (iv n f e a):=by
 have h1:=G.az ha
 have h2:=G.az hb
 refine (G.eD (G.cl a b ha hb) (G.cl _ _ h2 h1) (.inl ?_)).symm
 rw [G.assoc a b _ ha hb (G.cl _ _ h2 h1),← G.assoc b _ _ hb h2 h1,G.eC hb,G.one_l _ h1,G.eC ha]
theorem dF.gK (G:dF n f e):iv n f e e=e:=(G.eD G.el G.el (.inl (G.one_l e G.el))).symm
theorem dF.idem (G:dF n f e) {a:Nat} (ha:a < n):f a a=a↔a=e:=
 ⟨fun h=>G.gw ha ha G.el (by rw [h,G.one_r a ha]),fun h=>by subst h; exact G.one_l _ ha⟩
theorem dF.dJ (G:dF n f e) {a:Nat} (ha:a < n):∀ k,pw f e a k < n
 | 0=>G.el
 | k + 1=>G.cl _ _ (G.dJ ha k) ha
theorem dF.qT (G:dF n f e) {a:Nat} (ha:a < n):pw f e a 1=a:=G.one_l a ha
theorem dF.eE (G:dF n f e) {a:Nat} (ha:a < n) (i:Nat):∀ j,pw f e a (i + j)=f (pw f e a i) (pw f e a j)
 | 0=>by rw [Nat.add_zero]; exact (G.one_r _ (G.dJ ha i)).symm
 | j + 1=>by
  rw [← Nat.add_assoc]
  show f (pw f e a (i + j)) a=f (pw f e a i) (f (pw f e a j) a)
  rw [G.eE ha i j,G.assoc _ _ _ (G.dJ ha i) (G.dJ ha j) ha]
theorem dF.lM (G:dF n f e) {a:Nat} (ha:a < n) (i:Nat):∀ j,pw f e a (i * j)=pw f e (pw f e a i) j
 | 0=>rfl
 | j + 1=>by rw [Nat.mul_succ,G.eE ha,G.lM ha i j]; rfl
theorem dF.xY (G:dF n f e):∀ k,pw f e e k=e
 | 0=>rfl
 | k + 1=>by show f (pw f e e k) e=e; rw [G.xY k,G.one_l e G.el]
theorem dF.oa (G:dF n f e) {a:Nat} (ha:a < n) (k:Nat):pw f e a (k + 1)=f a (pw f e a k):=by
 rw [Nat.add_comm,G.eE ha,G.qT ha]
theorem dF.jw (G:dF n f e) {a:Nat} (ha:a < n):1≤ord n f e a∧ord n f e a≤n∧pw f e a (ord n f e a)=e∧∀ k,1≤k→k < ord n f e a→pw f e a k ≠ e:=by
 cases h:bO (fun k=>decide (1≤k∧pw f e a k=e)) (n + 1) with
 | none =>
  exfalso
  obtain ⟨i,j,hij,hj,he⟩:=yH (n:=n) (f:=pw f e a) fun i _=>G.dJ ha i
  have:=ca h (j - i) (by omega)
  have h2:pw f e a (j - i)=e:=by
   have h3:=G.eE ha i (j - i)
   rw [show i + (j - i)=j by omega,← he] at h3
   exact (G.gw (G.dJ ha i) G.el (G.dJ ha _) (by rw [← h3,G.one_r _ (G.dJ ha i)])).symm
  simp [h2] at this
  omega
 | some k =>
  have e1:ord n f e a=k:=by unfold ord; rw [h]; rfl
  obtain ⟨h1,h2,h3⟩:=cE h
  rw [e1]
  have h2:=of_decide_eq_true h2
  refine ⟨h2.1,by omega,h2.2,fun j hj hjk hje=>?_⟩
  have:=of_decide_eq_false (h3 j hjk)
  exact this ⟨hj,hje⟩
theorem dF.nF (G:dF n f e) {a:Nat} (ha:a < n):1≤ord n f e a:=(G.jw ha).1
theorem dF.uq (G:dF n f e) {a:Nat} (ha:a < n):pw f e a (ord n f e a)=e:=(G.jw ha).2.2.1
theorem dF.uV (G:dF n f e) {a:Nat} (ha:a < n) (k:Nat):pw f e a (k % ord n f e a)=pw f e a k:=by
 conv=>rhs; rw [← Nat.div_add_mod k (ord n f e a)]
 rw [G.eE ha,G.lM ha,G.uq ha,G.xY,G.one_l _ (G.dJ ha _)]
theorem dF.lS (G:dF n f e) {a:Nat} (ha:a < n) (k:Nat):pw f e a k=e↔ord n f e a ∣ k:=by
 constructor
 ·intro h
  rw [← G.uV ha] at h
  have:=(G.jw ha).2.2.2 (k % ord n f e a)
  have h1:=Nat.mod_lt k (G.nF ha)
  apply Nat.dvd_of_mod_eq_zero
  rcases Nat.eq_zero_or_pos (k % ord n f e a) with h0 | h0
  ·exact h0
  exact absurd h (this h0 h1)
 rintro ⟨m,rfl⟩
 rw [G.lM ha,G.uq ha,G.xY]
theorem dF.DR (G:dF n f e) {a:Nat} (ha:a < n) {i j:Nat} (hi:i < ord n f e a) (hj:j < ord n f e a) (h:pw f e a i=pw f e a j):i=j:=by
 have key:∀ i j,i≤j→j < ord n f e a→pw f e a i=pw f e a j→i=j:=by
  intro i j hij hj h
  have h3:=G.eE ha i (j - i)
  rw [show i + (j - i)=j by omega,← h] at h3
  have h4:pw f e a (j - i)=e:=(G.gw (G.dJ ha i) G.el (G.dJ ha _) (by rw [← h3,G.one_r _ (G.dJ ha i)])).symm
  rw [G.lS ha] at h4
  by_cases h0:j - i=0
  ·omega
  have:=Nat.le_of_dvd (by omega) h4; omega
 rcases Nat.le_total i j with h1 | h1
 ·exact key i j h1 hj h
 exact (key j i h1 hi h.symm).symm
theorem dF.wz (G:dF n f e) {a:Nat} (ha:a < n):ord n f e a ∣ n:=by
 have hr:∀ x y,decide (∃ k,k < ord n f e a∧y=f x (pw f e a k))=true↔∃ k,k < ord n f e a∧y=f x (pw f e a k):=fun x y=>by simp
 have o1:=G.nF ha
 have:=Bt (k:=ord n f e a) (r:=fun x y=>decide (∃ k,k < ord n f e a∧y=f x (pw f e a k))) n (List.range n) (by simp) List.nodup_range
  (fun x hx=>(hr x x).2 ⟨0,o1,(G.one_r x (by simpa using hx)).symm⟩)
  (fun x hx y hy h=>by
   have hx:x < n:=by simpa using hx
   obtain ⟨k,hk,e1⟩:=(hr x y).1 h
   refine (hr y x).2 ⟨(ord n f e a - k) % ord n f e a,Nat.mod_lt _ o1,?_⟩
   rw [G.uV ha,e1,G.assoc _ _ _ hx (G.dJ ha _) (G.dJ ha _),← G.eE ha,show k + (ord n f e a - k)=ord n f e a by omega,G.uq ha,G.one_r x hx])
  (fun x hx y hy z hz h1 h2=>by
   have hx:x < n:=by simpa using hx
   obtain ⟨k,hk,e1⟩:=(hr x y).1 h1
   obtain ⟨l,hl,e2⟩:=(hr y z).1 h2
   refine (hr x z).2 ⟨(k + l) % ord n f e a,Nat.mod_lt _ o1,?_⟩
   rw [G.uV ha,e2,e1,G.eE ha,G.assoc _ _ _ hx (G.dJ ha _) (G.dJ ha _)])
  (fun x hx=>by
   have hx:x < n:=by simpa using hx
   have h1:((List.range (ord n f e a)).map fun k=>f x (pw f e a k)).Nodup:=gQ List.nodup_range fun i hi j hj h =>
    G.DR ha (by simpa using hi) (by simpa using hj) (G.gw hx (G.dJ ha _) (G.dJ ha _) h)
   have:=gm (List.nodup_range.filter _) h1 (l1:=(List.range n).filter (fun y=>decide (∃ k,k < ord n f e a∧y=f x (pw f e a k)))) fun y=>by
    rw [List.mem_filter,hr,List.mem_map]
    constructor
    ·rintro ⟨_,k,hk,rfl⟩
     exact ⟨k,by simpa using hk,rfl⟩
    rintro ⟨k,hk,rfl⟩
    exact ⟨by simpa using G.cl _ _ hx (G.dJ ha k),k,by simpa using hk,rfl⟩
   simpa using this)
 simpa using this
end
open Go.Pv
def aj:TypeId→Option TI
 | 2=>some ⟨.int .i64,1,8,[.int .i64 0],false⟩
 | 3=>some ⟨.int .i64,1,8,[.int .i64 0],false⟩
 | 4=>some ⟨.bool,1,1,[.bool false],false⟩
 | 5=>some ⟨.int .u8,1,1,[.int .u8 0],false⟩
 | 9=>some ⟨.str,1,16,[.string ⟨#[]⟩],false⟩
 | 12=>some ⟨.int .u64,1,8,[.int .u64 0],false⟩
 | 21=>some ⟨.int .i32,1,4,[.int .i32 0],false⟩
 | 22=>some ⟨.slice 3,1,24,[.slice none 0 0],false⟩
 | 24=>some ⟨.struct [(0,3,1),(1,22,1)],2,32,[.int .i64 0,.slice none 0 0],false⟩
 | 25=>some ⟨.slice 22,1,24,[.slice none 0 0],false⟩
 | 27=>some ⟨.struct [(0,3,1),(1,3,1)],2,16,[.int .i64 0,.int .i64 0],true⟩
 | 40=>some ⟨.slice 25,1,24,[.slice none 0 0],false⟩
 | 43=>some ⟨.other,1,8,[.nilFunc],false⟩
 | 48=>some ⟨.other,1,8,[.nilFunc],false⟩
 | 66=>some ⟨.int .i64,1,8,[.int .i64 0],false⟩
 | 75=>some ⟨.slice 24,1,24,[.slice none 0 0],false⟩
 | 78=>some ⟨.int .u64,1,8,[.int .u64 0],false⟩
 | 79=>some ⟨.int .u64,1,8,[.int .u64 0],false⟩
 | 93=>some ⟨.int .u64,1,8,[.int .u64 0],false⟩
 | 95=>some ⟨.other,1,8,[.nilFunc],false⟩
 | 101=>some ⟨.other,1,8,[.nilFunc],false⟩
 | 104=>some ⟨.int .i64,1,8,[.int .i64 0],false⟩
 | 112=>some ⟨.int .u32,1,4,[.int .u32 0],false⟩
 | 113=>some ⟨.array 64 5,64,64,[.int .u8 0,.int .u8 0,.int .u8 0,.int .u8 0,.int .u8 0,.int .u8 0,.int .u8 0,.int .u8 0,.int .u8 0,.int .u8 0,.int .u8 0,.int .u8 0,.int .u8 0,.int .u8 0,.int .u8 0,.int .u8 0,.int .u8 0,.int .u8 0,.int .u8 0,.int .u8 0,.int .u8 0,.int .u8 0,.int .u8 0,.int .u8 0,.int .u8 0,.int .u8 0,.int .u8 0,.int .u8 0,.int .u8 0,.int .u8 0,.int .u8 0,.int .u8 0,.int .u8 0,.int .u8 0,.int .u8 0,.int .u8 0,.int .u8 0,.int .u8 0,.int .u8 0,.int .u8 0,.int .u8 0,.int .u8 0,.int .u8 0,.int .u8 0,.int .u8 0,.int .u8 0,.int .u8 0,.int .u8 0,.int .u8 0,.int .u8 0,.int .u8 0,.int .u8 0,.int .u8 0,.int .u8 0,.int .u8 0,.int .u8 0,.int .u8 0,.int .u8 0,.int .u8 0,.int .u8 0,.int .u8 0,.int .u8 0,.int .u8 0,.int .u8 0],false⟩
 | 114=>some ⟨.int .u64,1,8,[.int .u64 0],false⟩
 | 120=>some ⟨.other,1,8,[.pointer none],false⟩
 | _=>none
theorem Gl:bq Tryd.prog 2=some ⟨.int .i64,1,8,[.int .i64 0],false⟩:=by kernel_rfl
theorem GU:bq Tryd.prog 3=some ⟨.int .i64,1,8,[.int .i64 0],false⟩:=by kernel_rfl
theorem Ge:bq Tryd.prog 4=some ⟨.bool,1,1,[.bool false],false⟩:=by kernel_rfl
theorem F6:bq Tryd.prog 5=some ⟨.int .u8,1,1,[.int .u8 0],false⟩:=by kernel_rfl
theorem Hf:bq Tryd.prog 9=some ⟨.str,1,16,[.string ⟨#[]⟩],false⟩:=by kernel_rfl
theorem FD:bq Tryd.prog 12=some ⟨.int .u64,1,8,[.int .u64 0],false⟩:=by kernel_rfl
theorem Fa:bq Tryd.prog 21=some ⟨.int .i32,1,4,[.int .i32 0],false⟩:=by kernel_rfl
theorem FK:bq Tryd.prog 22=some ⟨.slice 3,1,24,[.slice none 0 0],false⟩:=by kernel_rfl
theorem DK:bq Tryd.prog 24=some ⟨.struct [(0,3,1),(1,22,1)],2,32,[.int .i64 0,.slice none 0 0],false⟩:=by kernel_rfl
theorem D6:bq Tryd.prog 25=some ⟨.slice 22,1,24,[.slice none 0 0],false⟩:=by kernel_rfl
theorem Eu:bq Tryd.prog 27=some ⟨.struct [(0,3,1),(1,3,1)],2,16,[.int .i64 0,.int .i64 0],true⟩:=by kernel_rfl
theorem DX:bq Tryd.prog 40=some ⟨.slice 25,1,24,[.slice none 0 0],false⟩:=by kernel_rfl
theorem EX:bq Tryd.prog 43=some ⟨.other,1,8,[.nilFunc],false⟩:=by kernel_rfl
theorem FJ:bq Tryd.prog 48=some ⟨.other,1,8,[.nilFunc],false⟩:=by kernel_rfl
theorem Fb:bq Tryd.prog 66=some ⟨.int .i64,1,8,[.int .i64 0],false⟩:=by kernel_rfl
theorem DN:bq Tryd.prog 75=some ⟨.slice 24,1,24,[.slice none 0 0],false⟩:=by kernel_rfl
theorem DV:bq Tryd.prog 78=some ⟨.int .u64,1,8,[.int .u64 0],false⟩:=by kernel_rfl
theorem FN:bq Tryd.prog 79=some ⟨.int .u64,1,8,[.int .u64 0],false⟩:=by kernel_rfl
theorem Ey:bq Tryd.prog 93=some ⟨.int .u64,1,8,[.int .u64 0],false⟩:=by kernel_rfl
theorem Fw:bq Tryd.prog 95=some ⟨.other,1,8,[.nilFunc],false⟩:=by kernel_rfl
theorem BP:bq Tryd.prog 101=some ⟨.other,1,8,[.nilFunc],false⟩:=by kernel_rfl
theorem B9:bq Tryd.prog 104=some ⟨.int .i64,1,8,[.int .i64 0],false⟩:=by kernel_rfl
theorem Cg:bq Tryd.prog 112=some ⟨.int .u32,1,4,[.int .u32 0],false⟩:=by kernel_rfl
theorem CH:bq Tryd.prog 113=some ⟨.array 64 5,64,64,[.int .u8 0,.int .u8 0,.int .u8 0,.int .u8 0,.int .u8 0,.int .u8 0,.int .u8 0,.int .u8 0,.int .u8 0,.int .u8 0,.int .u8 0,.int .u8 0,.int .u8 0,.int .u8 0,.int .u8 0,.int .u8 0,.int .u8 0,.int .u8 0,.int .u8 0,.int .u8 0,.int .u8 0,.int .u8 0,.int .u8 0,.int .u8 0,.int .u8 0,.int .u8 0,.int .u8 0,.int .u8 0,.int .u8 0,.int .u8 0,.int .u8 0,.int .u8 0,.int .u8 0,.int .u8 0,.int .u8 0,.int .u8 0,.int .u8 0,.int .u8 0,.int .u8 0,.int .u8 0,.int .u8 0,.int .u8 0,.int .u8 0,.int .u8 0,.int .u8 0,.int .u8 0,.int .u8 0,.int .u8 0,.int .u8 0,.int .u8 0,.int .u8 0,.int .u8 0,.int .u8 0,.int .u8 0,.int .u8 0,.int .u8 0,.int .u8 0,.int .u8 0,.int .u8 0,.int .u8 0,.int .u8 0,.int .u8 0,.int .u8 0,.int .u8 0],false⟩:=by kernel_rfl
theorem Ce:bq Tryd.prog 114=some ⟨.int .u64,1,8,[.int .u64 0],false⟩:=by kernel_rfl
theorem Bu:bq Tryd.prog 120=some ⟨.other,1,8,[.pointer none],false⟩:=by kernel_rfl
theorem ae:∀ t ti,aj t=some ti→bq Tryd.prog t=some ti:=by
 intro t ti h
 unfold aj at h
 split at h
 ·cases h; exact Gl
 ·cases h; exact GU
 ·cases h; exact Ge
 ·cases h; exact F6
 ·cases h; exact Hf
 ·cases h; exact FD
 ·cases h; exact Fa
 ·cases h; exact FK
 ·cases h; exact DK
 ·cases h; exact D6
 ·cases h; exact Eu
 ·cases h; exact DX
 ·cases h; exact EX
 ·cases h; exact FJ
 ·cases h; exact Fb
 ·cases h; exact DN
 ·cases h; exact DV
 ·cases h; exact FN
 ·cases h; exact Ey
 ·cases h; exact Fw
 ·cases h; exact BP
 ·cases h; exact B9
 ·cases h; exact Cg
 ·cases h; exact CH
 ·cases h; exact Ce
 ·cases h; exact Bu
 cases h
theorem mixed:Tryd.prog.follows .mixedOrders=true:=by kernel_rfl
def fl (p:Int × Int):PV:=.agg [.int .i64 p.1,.int .i64 p.2]
def op (m:List Int) (n a b:Nat):Nat:=(m.getD (a * n + b) 0).toNat
structure rS (n:Nat) (m:List Int):Prop where
 pos:1≤n
 big:n≤60
 len:m.length=n * n
 Gh:∀ i,i < n * n→0≤m.getD i 0∧m.getD i 0 < n
theorem vk {n a b:Nat} (ha:a < n) (hb:b < n):a * n + b < n * n:=by
 have:(a + 1) * n≤n * n:=Nat.mul_le_mul_right _ ha
 rw [Nat.add_mul,Nat.one_mul] at this
 omega
theorem qp {n:Nat} (h:n≤60):n * n≤3600:=Nat.mul_le_mul h h
theorem rS.val {n:Nat} {m:List Int} (T:rS n m) {a b:Nat} (ha:a < n) (hb:b < n):m.getD (a * n + b) 0=((op m n a b:Nat):Int):=by
 have:=T.Gh _ (vk ha hb)
 unfold op; omega
theorem rS.lt {n:Nat} {m:List Int} (T:rS n m) {a b:Nat} (ha:a < n) (hb:b < n):op m n a b < n:=by
 have:=T.Gh _ (vk ha hb)
 unfold op; omega
theorem AH (a n b:Nat):((a:Int) * (n:Int) + (b:Int)).toNat=a * n + b:=by
 have:(a:Int) * (n:Int)=((a * n:Nat):Int):=(Int.natCast_mul a n).symm
 omega
theorem xm {n:Nat} {m:List Int} (T:rS n m) {a b:Nat} (ha:a < n) (hb:b < n):cL Tryd.prog 26 [gp n m,.int .i64 a,.int .i64 b] (.int .i64 (op m n a b:Nat)):=by
 have h1:=vk ha hb
 have h2:=qp T.big
 have h3:=T.len
 have hc:(a:Int) * (n:Int)=((a * n:Nat):Int):=(Int.natCast_mul a n).symm
 have hv:=T.val ha hb
 refine aM ae Tryd.func26 rfl (by kernel_rfl) (by rw [Tryd.ntmps26]; exact Nat.le_add_left 3 _) ?_; rw [Tryd.ntmps26]
 refine qm ?_
 refine ab fun K hK=>aa ae ?_
 simp only [ak,fl,gp,aj,simprocAttr]
 refine af ?_ (hK _ ?_)<;>clear hK K
 ·first|exact trivial|omega|(simp only [ah] at *; omega)|(simp [ah] at *; omega)|simp_all
 refine qa (qm ?_)
 refine ab fun K hK=>aa ae ?_
 simp only [ak,fl,gp,aj,simprocAttr,AH,aW (show a * n + b < m.length by omega),hv]
 refine af ?_ (hK _ ?_)<;>clear hK K
 ·rw [hc]; simp only [ah]; omega
 refine qa (qk ?_)
 simp only [Tryd.results26,cy,ak,fl,gp,aj,simprocAttr]
 all_goals (rfl)
def rP (m:List Int) (n a:Nat):Prop:=∀ b,b < n→op m n a b=b∧op m n b a=b
instance (m:List Int) (n a:Nat):Decidable (rP m n a):=by unfold rP; infer_instance
def eI (m:List Int) (n:Nat):Int:=match bO (fun a=>decide (rP m n a)) n with | some a=>(a:Int) | none=>-1
theorem nD {P:Nat→Prop} {b:Nat} [Decidable (∀ c,c < b + 1→P c)] (h:¬ P b):decide (∀ c,c < b + 1→P c)=false:=by
 simp only [decide_eq_false_iff_not]
 exact fun h'=>h (h' b (Nat.lt_succ_self b))
theorem oZ {P:Nat→Prop} {b:Nat} [Decidable (∀ c,c < b + 1→P c)] [Decidable (∀ c,c < b→P c)] (h:P b):decide (∀ c,c < b + 1→P c)=decide (∀ c,c < b→P c):=by
 apply decide_eq_decide.2
 constructor
 ·exact fun h' c hc=>h' c (by omega)
 intro h' c hc
 by_cases e:c=b
 ·subst e; exact h
 exact h' c (by omega)
theorem Ho {n:Nat} {m:List Int} (T:rS n m):cL Tryd.prog 18 [gp n m] (.int .i64 (eI m n)):=by
 have hb:=T.big
 refine aM ae Tryd.func18 rfl (by kernel_rfl) (by rw [Tryd.ntmps18]; exact Nat.le_add_left 1 _) ?_; rw [Tryd.ntmps18]
 refine qm ?_
 refine ab fun K hK=>aa ae ?_
 simp only [ak,fl,gp,aj,simprocAttr]
 refine af ?_ (hK _ ?_)<;>clear hK K
 ·first|exact trivial|omega|(simp only [ah] at *; omega)|(simp [ah] at *; omega)|simp_all
 refine qa (qm (qm ?_))
 refine ab fun K hK=>aa ae ?_
 simp only [ak,fl,gp,aj,simprocAttr]
 refine af trivial (hK _ ?_)<;>clear hK K
 refine qa (ql ?_)
 refine aA (ι:=Nat) (fun i=>⟨34,[(1,.ptr 0 0),(3,.p (.int .i64 i))],[.own [.p (.int .i64 n),.p (.list (il m))]]⟩) (fun i=>i≤n∧∀ j,j < i→¬ rP m n j) (fun i=>n - i) 0 ⟨Nat.zero_le _,fun j hj=>by omega⟩ [0] (by simp only [leq,bh,ak,fl,gp,aj,simprocAttr]<;>trivial) fun i hi=>?_
 obtain ⟨hi1,hi2⟩:=hi
 refine qm (qm ?_)
 refine ab fun K hK=>aa ae ?_
 simp only [ak,fl,gp,aj,simprocAttr]
 refine af ?_ (hK _ ?_)<;>clear hK K
 ·first|exact trivial|omega|(simp only [ah] at *; omega)|(simp [ah] at *; omega)|simp_all
 refine qa ?_
 refine an rfl (fun hC1=>?_) (fun hC1=>?_)
 ·(try simp only [aI] at hC1)
  have hlt:i < n:=by omega
  refine qh (qa (qm (ql (qm ?_))))
  refine ab fun K hK=>aa ae ?_
  simp only [ak,fl,gp,aj,simprocAttr]
  refine af trivial (hK _ ?_)<;>clear hK K
  refine qa (qm (qm ?_))
  refine ab fun K hK=>aa ae ?_
  simp only [ak,fl,gp,aj,simprocAttr]
  refine af trivial (hK _ ?_)<;>clear hK K
  refine qa (ql ?_)
  refine aA (ι:=Nat) (fun b=>⟨34,[(1,.ptr 0 0),(3,.p (.int .i64 i)),(4,.p (.bool (decide (∀ c,c < b→op m n i c=c∧op m n c i=c)))),(5,.p (.int .i64 b))],[.own [.p (.int .i64 n),.p (.list (il m))]]⟩) (fun b=>b≤n) (fun b=>n - b) 0 (Nat.zero_le _) [0] (by simp only [leq,bh,ak,fl,gp,aj,simprocAttr]<;>simp) fun b hb=>?_
  refine qm (qm ?_)
  refine ab fun K hK=>aa ae ?_
  simp only [ak,fl,gp,aj,simprocAttr]
  refine af ?_ (hK _ ?_)<;>clear hK K
  ·first|exact trivial|omega|(simp only [ah] at *; omega)|(simp [ah] at *; omega)|simp_all
  refine qa ?_
  refine an rfl (fun hC2=>?_) (fun hC2=>?_)
  ·(try simp only [aI] at hC2)
   have hbl:b < n:=by omega
   refine qh (qa (qm (ql (qm ?_))))
   by_cases g8a:(((op m n i b:Nat):Int)=(b:Nat))
   ·refine ab fun K hK=>aa ae ?_
    simp only [ak,fl,gp,aj,simprocAttr,decide_eq_true g8a]
    refine ao trivial (al (xm T hlt hbl) rfl rfl rfl (by simp only [ay,Nat.reduceLT]) (by repeat (first|exact trivial|constructor)) (aa ae ?_))
    simp only [ak,fl,gp,aj,simprocAttr,decide_eq_true g8a]
    refine ao trivial (al (xm T hbl hlt) rfl rfl rfl (by simp only [ay,Nat.reduceLT]) (by repeat (first|exact trivial|constructor)) (aa ae ?_))
    simp only [ak,fl,gp,aj,simprocAttr,decide_eq_true g8a]
    refine af ?_ (hK _ ?_)<;>clear hK K
    ·first|exact trivial|omega|(simp only [ah] at *; omega)|(simp [ah] at *; omega)|simp_all
    refine qa ?_
    refine an rfl (fun hC3=>?_) (fun hC3=>?_)
    ·(try simp only [aI] at hC3)
     have hno:¬ (op m n i b=b∧op m n b i=b):=by omega
     refine ab fun K hK=>aa ae ?_
     simp only [ak,fl,gp,aj,simprocAttr]
     refine af trivial (hK _ ?_)<;>clear hK K
     refine qd (qa ?_)
     refine ab fun K hK=>aa ae ?_
     simp only [ak,fl,gp,aj,simprocAttr]
     refine af ?_ (hK _ ?_)<;>clear hK K
     ·first|exact trivial|omega|(simp only [ah] at *; omega)|(simp [ah] at *; omega)|simp_all
     refine qa ?_
     refine ⟨b + 1,[0],by omega,by omega,?_⟩
     first|rw [nD hno]|rw [oZ hyes]
     simp only [leq,bh,ak,fl,gp,aj,simprocAttr]<;>trivial
    (try simp only [aI] at hC3)
    have hyes:op m n i b=b∧op m n b i=b:=by omega
    refine qh (qd (qa ?_))
    refine ab fun K hK=>aa ae ?_
    simp only [ak,fl,gp,aj,simprocAttr]
    refine af ?_ (hK _ ?_)<;>clear hK K
    ·first|exact trivial|omega|(simp only [ah] at *; omega)|(simp [ah] at *; omega)|simp_all
    refine qa ?_
    refine ⟨b + 1,[0],by omega,by omega,?_⟩
    first|rw [nD hno]|rw [oZ hyes]
    simp only [leq,bh,ak,fl,gp,aj,simprocAttr]<;>trivial
   refine ab fun K hK=>aa ae ?_
   simp only [ak,fl,gp,aj,simprocAttr,decide_eq_false g8a]
   refine ao trivial (al (xm T hlt hbl) rfl rfl rfl (by simp only [ay,Nat.reduceLT]) (by repeat (first|exact trivial|constructor)) (aa ae ?_))
   simp only [ak,fl,gp,aj,simprocAttr,decide_eq_false g8a]
   refine af ?_ (hK _ ?_)<;>clear hK K
   ·first|exact trivial|omega|(simp only [ah] at *; omega)|(simp [ah] at *; omega)|simp_all
   refine qa ?_
   refine an rfl (fun hC3=>?_) (fun hC3=>?_)
   ·have hno:¬ (op m n i b=b∧op m n b i=b):=by omega
    refine ab fun K hK=>aa ae ?_
    simp only [ak,fl,gp,aj,simprocAttr]
    refine af trivial (hK _ ?_)<;>clear hK K
    refine qd (qa ?_)
    refine ab fun K hK=>aa ae ?_
    simp only [ak,fl,gp,aj,simprocAttr]
    refine af ?_ (hK _ ?_)<;>clear hK K
    ·first|exact trivial|omega|(simp only [ah] at *; omega)|(simp [ah] at *; omega)|simp_all
    refine qa ?_
    refine ⟨b + 1,[0],by omega,by omega,?_⟩
    first|rw [nD hno]|rw [oZ hyes]
    simp only [leq,bh,ak,fl,gp,aj,simprocAttr]<;>trivial
   cases hC3
  (try simp only [aI] at hC2)
  refine qj (qc (qc (qf (qa (qm ?_)))))
  refine ab fun K hK=>aa ae ?_
  simp only [ak,fl,gp,aj,simprocAttr]
  refine af trivial (hK _ ?_)<;>clear hK K
  refine qa ?_
  refine an rfl (fun hC4=>?_) (fun hC4=>?_)
  ·(try simp only [aI] at hC4)
   have hE:rP m n i:=by
    have:b=n:=by omega
    subst this; exact hC4
   refine qm ?_
   refine ab fun K hK=>aa ae ?_
   simp only [ak,fl,gp,aj,simprocAttr]
   refine af trivial (hK _ ?_)<;>clear hK K
   refine qa (qk (qe (qb (qb (qe (qb ?_))))))
   simp only [Tryd.results18,cy,ak,fl,gp,aj,simprocAttr]
   all_goals (unfold eI; rw [dc hlt (decide_eq_true hE) fun j hj=>decide_eq_false (hi2 j hj)])
  (try simp only [aI] at hC4)
  refine qh (qd (qa ?_))
  refine ab fun K hK=>aa ae ?_
  simp only [ak,fl,gp,aj,simprocAttr]
  refine af ?_ (hK _ ?_)<;>clear hK K
  ·first|exact trivial|omega|(simp only [ah] at *; omega)|(simp [ah] at *; omega)|simp_all
  refine qa ?_
  refine ⟨i + 1,[0],⟨by omega,fun j hj=>?_⟩,by omega,?_⟩
  ·by_cases hj:j=i
   ·subst hj
    have:b=n:=by omega
    subst this; exact hC4
   exact hi2 j (by omega)
  simp only [leq,bh,ak,fl,gp,aj,simprocAttr]<;>omega
 (try simp only [aI] at hC1)
 refine qj (qc (qc (qf (qa (qm ?_)))))
 refine ab fun K hK=>aa ae ?_
 simp only [ak,fl,gp,aj,simprocAttr]
 refine af trivial (hK _ ?_)<;>clear hK K
 refine qa (qk ?_)
 simp only [Tryd.results18,cy,ak,fl,gp,aj,simprocAttr]
 all_goals (unfold eI; rw [ep fun j hj=>decide_eq_false (hi2 j (by omega))])
theorem Ca (c a:Int):cL Tryd.prog 54 [.int .i64 c,.int .i64 a] (fl (c,a)):=by
 refine aM ae Tryd.func54 rfl (by kernel_rfl) (by rw [Tryd.ntmps54]; exact Nat.le_add_left 2 _) ?_; rw [Tryd.ntmps54]
 refine qm ?_
 refine ab fun K hK=>aa ae ?_
 simp only [ak,fl,gp,aj,simprocAttr]
 refine af ?_ (hK _ ?_)<;>clear hK K
 ·first|exact trivial|omega|(simp only [ah] at *; omega)|(simp [ah] at *; omega)|simp_all
 refine qa (qm ?_)
 refine ab fun K hK=>aa ae ?_
 simp only [ak,fl,gp,aj,simprocAttr]
 refine af ?_ (hK _ ?_)<;>clear hK K
 ·first|exact trivial|omega|(simp only [ah] at *; omega)|(simp [ah] at *; omega)|simp_all
 refine qa (qk ?_)
 simp only [Tryd.results54,cy,ak,fl,gp,aj,simprocAttr]
 all_goals (rfl)
def iI (m:List Int) (n a:Nat):Int:=match bO (fun b=>decide (((op m n a b:Nat):Int)=eI m n∧((op m n b a:Nat):Int)=eI m n)) n with | some b=>(b:Int) | none=>-1
theorem Ig {n:Nat} {m:List Int} (T:rS n m) {a:Nat} (ha:a < n):cL Tryd.prog 57 [gp n m,.int .i64 a] (.int .i64 (iI m n a)):=by
 have hb:=T.big
 refine aM ae Tryd.func57 rfl (by kernel_rfl) (by rw [Tryd.ntmps57]; exact Nat.le_add_left 2 _) ?_; rw [Tryd.ntmps57]
 refine qm ?_
 refine ab fun K hK=>aa ae ?_
 simp only [ak,fl,gp,aj,simprocAttr]
 refine af ?_ (hK _ ?_)<;>clear hK K
 ·first|exact trivial|omega|(simp only [ah] at *; omega)|(simp [ah] at *; omega)|simp_all
 refine qa (qm ?_)
 refine ab fun K hK=>aa ae ?_
 simp only [ak,fl,gp,aj,simprocAttr]
 refine ao trivial (al (Ho T) rfl rfl rfl (by simp only [ay,Nat.reduceLT]) (by repeat (first|exact trivial|constructor)) (aa ae ?_))
 simp only [ak,fl,gp,aj,simprocAttr]
 refine af ?_ (hK _ ?_)<;>clear hK K
 ·first|exact trivial|omega|(simp only [ah] at *; omega)|(simp [ah] at *; omega)|simp_all
 refine qa (qm (qm ?_))
 refine ab fun K hK=>aa ae ?_
 simp only [ak,fl,gp,aj,simprocAttr]
 refine af trivial (hK _ ?_)<;>clear hK K
 refine qa (ql ?_)
 refine aA (ι:=Nat) (fun i=>⟨30,[(1,.p (.int .i64 a)),(2,.ptr 0 0),(5,.p (.int .i64 (eI m n))),(6,.p (.int .i64 i))],[.own [.p (.int .i64 n),.p (.list (il m))]]⟩) (fun i=>i≤n∧∀ j,j < i→¬ (((op m n a j:Nat):Int)=eI m n∧((op m n j a:Nat):Int)=eI m n)) (fun i=>n - i) 0 ⟨Nat.zero_le _,fun j hj=>by omega⟩ [0] (by simp only [leq,bh,ak,fl,gp,aj,simprocAttr]<;>trivial) fun i hi=>?_
 obtain ⟨hi1,hi2⟩:=hi
 refine qm (qm ?_)
 refine ab fun K hK=>aa ae ?_
 simp only [ak,fl,gp,aj,simprocAttr]
 refine af ?_ (hK _ ?_)<;>clear hK K
 ·first|exact trivial|omega|(simp only [ah] at *; omega)|(simp [ah] at *; omega)|simp_all
 refine qa ?_
 refine an rfl (fun hC1=>?_) (fun hC1=>?_)
 ·(try simp only [aI] at hC1)
  have hlt:i < n:=by omega
  refine qh (qa (qm (ql (qm ?_))))
  by_cases g5a:((op m n a i:Nat):Int)=eI m n
  ·refine ab fun K hK=>aa ae ?_
   simp only [ak,fl,gp,aj,simprocAttr,decide_eq_true g5a]
   refine ao trivial (al (xm T ha hlt) rfl rfl rfl (by simp only [ay,Nat.reduceLT]) (by repeat (first|exact trivial|constructor)) (aa ae ?_))
   simp only [ak,fl,gp,aj,simprocAttr,decide_eq_true g5a]
   refine ao trivial (al (xm T hlt ha) rfl rfl rfl (by simp only [ay,Nat.reduceLT]) (by repeat (first|exact trivial|constructor)) (aa ae ?_))
   simp only [ak,fl,gp,aj,simprocAttr,decide_eq_true g5a]
   refine af ?_ (hK _ ?_)<;>clear hK K
   ·first|exact trivial|omega|(simp only [ah] at *; omega)|(simp [ah] at *; omega)|simp_all
   refine qa ?_
   refine an rfl (fun hC2=>?_) (fun hC2=>?_)
   ·(try simp only [aI] at hC2)
    refine qm ?_
    refine ab fun K hK=>aa ae ?_
    simp only [ak,fl,gp,aj,simprocAttr]
    refine af trivial (hK _ ?_)<;>clear hK K
    refine qa (qk (qe (qb (qb (qe (qb ?_))))))
    simp only [Tryd.results57,cy,ak,fl,gp,aj,simprocAttr]
    all_goals (unfold iI; rw [dc hlt (decide_eq_true ⟨g5a,hC2⟩) fun j hj=>decide_eq_false (hi2 j hj)])
   (try simp only [aI] at hC2)
   have hno:¬ (((op m n a i:Nat):Int)=eI m n∧((op m n i a:Nat):Int)=eI m n):=fun h=>by first|exact hC2 h.2|exact g5a h.1
   refine qh (qd (qa ?_))
   refine ab fun K hK=>aa ae ?_
   simp only [ak,fl,gp,aj,simprocAttr]
   refine af ?_ (hK _ ?_)<;>clear hK K
   ·first|exact trivial|omega|(simp only [ah] at *; omega)|(simp [ah] at *; omega)|simp_all
   refine qa ?_
   refine ⟨i + 1,[0],⟨by omega,fun j hj=>?_⟩,by omega,?_⟩
   ·by_cases hj:j=i
    ·subst hj; exact hno
    exact hi2 j (by omega)
   simp only [leq,bh,ak,fl,gp,aj,simprocAttr]<;>omega
  refine ab fun K hK=>aa ae ?_
  simp only [ak,fl,gp,aj,simprocAttr,decide_eq_false g5a]
  refine ao trivial (al (xm T ha hlt) rfl rfl rfl (by simp only [ay,Nat.reduceLT]) (by repeat (first|exact trivial|constructor)) (aa ae ?_))
  simp only [ak,fl,gp,aj,simprocAttr,decide_eq_false g5a]
  refine af ?_ (hK _ ?_)<;>clear hK K
  ·first|exact trivial|omega|(simp only [ah] at *; omega)|(simp [ah] at *; omega)|simp_all
  refine qa ?_
  refine an rfl (fun hC2=>?_) (fun hC2=>?_)
  ·cases hC2
  have hno:¬ (((op m n a i:Nat):Int)=eI m n∧((op m n i a:Nat):Int)=eI m n):=fun h=>by first|exact hC2 h.2|exact g5a h.1
  refine qh (qd (qa ?_))
  refine ab fun K hK=>aa ae ?_
  simp only [ak,fl,gp,aj,simprocAttr]
  refine af ?_ (hK _ ?_)<;>clear hK K
  ·first|exact trivial|omega|(simp only [ah] at *; omega)|(simp [ah] at *; omega)|simp_all
  refine qa ?_
  refine ⟨i + 1,[0],⟨by omega,fun j hj=>?_⟩,by omega,?_⟩
  ·by_cases hj:j=i
   ·subst hj; exact hno
   exact hi2 j (by omega)
  simp only [leq,bh,ak,fl,gp,aj,simprocAttr]<;>omega
 (try simp only [aI] at hC1)
 refine qj (qc (qc (qf (qa (qm ?_)))))
 refine ab fun K hK=>aa ae ?_
 simp only [ak,fl,gp,aj,simprocAttr]
 refine af trivial (hK _ ?_)<;>clear hK K
 refine qa (qk ?_)
 simp only [Tryd.results57,cy,ak,fl,gp,aj,simprocAttr]
 all_goals (unfold iI; rw [ep fun j hj=>decide_eq_false (hi2 j (by omega))])
def tV (m:List Int) (n a:Nat):Prop:=∀ b,b < n→∀ c,c < n→op m n (op m n a b) c=op m n a (op m n b c)
instance (m:List Int) (n a:Nat):Decidable (tV m n a):=by unfold tV; infer_instance
def AR (m:List Int) (n:Nat):Int × Int:=
 if eI m n < 0 then (6,0)
 else match bO (fun a=>decide (¬ tV m n a)) n with
  | some a=>(7,(a:Int))
  | none=>match bO (fun a=>decide (iI m n a < 0)) n with
   | some a=>(4,(a:Int))
   | none=>(0,0)
def bad (N:Int) (m:List Int) (i:Nat):Bool:=decide (m.getD i 0 < 0∨m.getD i 0 ≥ N)
def gf (N:Int) (m:List Int):Int × Int:=
 if N < 1∨N > 60 then (2,0)
 else if ¬ (m.length:Int)=N * N then (8,0)
 else match bO (bad N m) m.length with
  | some i=>(3,(i:Int))
  | none=>AR m N.toNat
theorem mj (n:Nat):(n:Int) * (n:Int)=((n * n:Nat):Int):=(Int.natCast_mul n n).symm
theorem vy {n:Nat} {m:List Int} (h1:1≤n) (h2:n≤60) (h3:m.length ≠ n * n):gf n m=(8,0):=by
 unfold gf
 rw [if_neg (by omega),if_pos (by rw [mj]; omega)]
theorem lD {n:Nat} {m:List Int} (h1:1≤n) (h2:n≤60) (h3:m.length=n * n) {i:Nat} (hi:i < m.length) (hb:bad n m i=true) (hj:∀ j,j < i→bad n m j=false):gf n m=(3,(i:Int)):=by
 unfold gf
 rw [if_neg (by omega),if_neg (by rw [mj]; omega),dc hi hb hj]
theorem ij {n:Nat} {m:List Int} (T:rS n m):gf n m=AR m n:=by
 have h1:=T.pos
 have h2:=T.big
 have h3:=T.len
 unfold gf
 rw [if_neg (by omega),if_neg (by rw [mj]; omega),ep]
 ·rfl
 intro j hj
 have:=T.Gh j (by omega)
 exact decide_eq_false (by omega)
theorem Dm {m:List Int} {n:Nat} (h:eI m n < 0):AR m n=(6,0):=by
 unfold AR; rw [if_pos h]
theorem Da {m:List Int} {n a:Nat} (h:¬ eI m n < 0) (ha:a < n) (hn:¬ tV m n a) (hj:∀ j,j < a→tV m n j):AR m n=(7,(a:Int)):=by
 have:bO (fun a=>decide (¬ tV m n a)) n=some a:=dc ha (decide_eq_true hn) fun j h=>decide_eq_false fun h'=>h' (hj j h)
 unfold AR; rw [if_neg h,this]
theorem DE {m:List Int} {n a:Nat} (h:¬ eI m n < 0) (hs:∀ j,j < n→tV m n j) (ha:a < n) (hn:iI m n a < 0) (hj:∀ j,j < a→¬ iI m n j < 0):AR m n=(4,(a:Int)):=by
 have h1:bO (fun a=>decide (¬ tV m n a)) n=none:=ep fun j h=>decide_eq_false fun h'=>h' (hs j h)
 have h2:bO (fun a=>decide (iI m n a < 0)) n=some a:=dc ha (decide_eq_true hn) fun j h=>decide_eq_false (hj j h)
 unfold AR; rw [if_neg h,h1,h2]
theorem Ag {m:List Int} {n:Nat} (h:¬ eI m n < 0) (hs:∀ j,j < n→tV m n j) (hj:∀ j,j < n→¬ iI m n j < 0):AR m n=(0,0):=by
 have h1:bO (fun a=>decide (¬ tV m n a)) n=none:=ep fun j h=>decide_eq_false fun h'=>h' (hs j h)
 have h2:bO (fun a=>decide (iI m n a < 0)) n=none:=ep fun j h=>decide_eq_false (hj j h)
 unfold AR; rw [if_neg h,h1,h2]
set_option maxHeartbeats 2000000 in
theorem GG (N:Int) (m:List Int) (hm:m.length≤1000000000000000):cL Tryd.prog 52 [gp N m] (fl (gf N m)):=by
 refine aM ae Tryd.func52 rfl (by kernel_rfl) (by rw [Tryd.ntmps52]; exact Nat.le_add_left 1 _) ?_; rw [Tryd.ntmps52]
 refine qm ?_
 refine ab fun K hK=>aa ae ?_
 simp only [ak,fl,gp,aj,simprocAttr]
 refine af ?_ (hK _ ?_)<;>clear hK K
 ·first|exact trivial|omega|(simp only [ah] at *; omega)|(simp [ah] at *; omega)|simp_all
 refine qa (qm (qm ?_))
 by_cases g1a:N < 1
 ·refine ab fun K hK=>aa ae ?_
  simp only [ak,fl,gp,aj,simprocAttr,decide_eq_true g1a]
  refine af ?_ (hK _ ?_)<;>clear hK K
  ·first|exact trivial|omega|(simp only [ah] at *; omega)|(simp [ah] at *; omega)|simp_all
  refine qa ?_
  refine an rfl (fun hC1=>?_) (fun hC1=>?_)
  ·refine qm ?_
   refine ab fun K hK=>aa ae ?_
   simp only [ak,fl,gp,aj,simprocAttr]
   refine ao trivial (al (Ca 2 0) rfl rfl rfl (by simp only [ay,Nat.reduceLT]) (by repeat (first|exact trivial|constructor)) (aa ae ?_))
   simp only [ak,fl,gp,aj,simprocAttr]
   refine af ?_ (hK _ ?_)<;>clear hK K
   ·first|exact trivial|omega|(simp only [ah] at *; omega)|(simp [ah] at *; omega)|simp_all
   refine qa (qk (qb ?_))
   simp only [Tryd.results52,cy,ak,fl,gp,aj,simprocAttr]
   all_goals (unfold gf; rw [if_pos (.inl g1a)]; simp)
  cases hC1
 refine ab fun K hK=>aa ae ?_
 simp only [ak,fl,gp,aj,simprocAttr,decide_eq_false g1a]
 refine af ?_ (hK _ ?_)<;>clear hK K
 ·first|exact trivial|omega|(simp only [ah] at *; omega)|(simp [ah] at *; omega)|simp_all
 refine qa ?_
 refine an rfl (fun hC1=>?_) (fun hC1=>?_)
 ·(try simp only [aI] at hC1)
  refine qm ?_
  refine ab fun K hK=>aa ae ?_
  simp only [ak,fl,gp,aj,simprocAttr]
  refine ao trivial (al (Ca 2 0) rfl rfl rfl (by simp only [ay,Nat.reduceLT]) (by repeat (first|exact trivial|constructor)) (aa ae ?_))
  simp only [ak,fl,gp,aj,simprocAttr]
  refine af ?_ (hK _ ?_)<;>clear hK K
  ·first|exact trivial|omega|(simp only [ah] at *; omega)|(simp [ah] at *; omega)|simp_all
  refine qa (qk (qb ?_))
  simp only [Tryd.results52,cy,ak,fl,gp,aj,simprocAttr]
  all_goals (unfold gf; rw [if_pos (.inr hC1)]; simp)
 (try simp only [aI] at hC1)
 obtain ⟨n,rfl⟩:=Int.eq_ofNat_of_zero_le (show 0≤N by omega)
 have hnn:=mj n
 have hsq:=qp (show n≤60 by omega)
 refine qh (qa (qm (qm ?_)))
 refine ab fun K hK=>aa ae ?_
 simp only [ak,fl,gp,aj,simprocAttr]
 refine af ?_ (hK _ ?_)<;>clear hK K
 ·simp only [ah]; omega
 refine qa ?_
 refine an rfl (fun hC2=>?_) (fun hC2=>?_)
 ·(try simp only [aI] at hC2)
  refine qm ?_
  refine ab fun K hK=>aa ae ?_
  simp only [ak,fl,gp,aj,simprocAttr]
  refine ao trivial (al (Ca 8 0) rfl rfl rfl (by simp only [ay,Nat.reduceLT]) (by repeat (first|exact trivial|constructor)) (aa ae ?_))
  simp only [ak,fl,gp,aj,simprocAttr]
  refine af ?_ (hK _ ?_)<;>clear hK K
  ·first|exact trivial|omega|(simp only [ah] at *; omega)|(simp [ah] at *; omega)|simp_all
  refine qa (qk (qb ?_))
  simp only [Tryd.results52,cy,ak,fl,gp,aj,simprocAttr]
  all_goals (rw [vy (by omega) (by omega) (by omega)]; simp)
 (try simp only [aI] at hC2)
 have hl:m.length=n * n:=by omega
 refine qh (qa (qm (qm ?_)))
 refine ab fun K hK=>aa ae ?_
 simp only [ak,fl,gp,aj,simprocAttr]
 refine af trivial (hK _ ?_)<;>clear hK K
 refine qa (ql ?_)
 refine aA (ι:=Nat) (fun i=>⟨104,[(1,.ptr 0 0),(2,.ptr 1 0),(3,.p (.int .i64 i))],[.own [.p (.int .i64 n),.p (.list (il m))],.own [.p (.int .i64 0),.p (.int .i64 0)]]⟩) (fun i=>i≤m.length∧∀ j,j < i→bad n m j=false) (fun i=>m.length - i) 0 ⟨Nat.zero_le _,fun j hj=>by omega⟩ [0,1] (by simp only [leq,bh,ak,fl,gp,aj,simprocAttr]<;>trivial) fun i hi=>?_
 obtain ⟨hi1,hi2⟩:=hi
 refine qm (qm ?_)
 refine ab fun K hK=>aa ae ?_
 simp only [ak,fl,gp,aj,simprocAttr]
 refine af ?_ (hK _ ?_)<;>clear hK K
 ·first|exact trivial|omega|(simp only [ah] at *; omega)|(simp [ah] at *; omega)|simp_all
 refine qa ?_
 refine an rfl (fun hC3=>?_) (fun hC3=>?_)
 ·(try simp only [aI] at hC3)
  have hlt:i < m.length:=by omega
  refine qh (qa (qm (ql (qm ?_))))
  by_cases g8a:m.getD i 0 < 0
  ·refine bf mixed (by kernel_rfl) fun K hK=>aa ae ?_
   simp only [ak,fl,gp,aj,simprocAttr,aW hlt,decide_eq_true g8a]
   refine af ?_ (hK _ ?_)<;>clear hK K
   ·first|exact trivial|omega|(simp only [ah] at *; omega)|(simp [ah] at *; omega)|simp_all
   refine qa ?_
   refine an rfl (fun hC4=>?_) (fun hC4=>?_)
   ·refine qm ?_
    refine ab fun K hK=>aa ae ?_
    simp only [ak,fl,gp,aj,simprocAttr]
    refine ao trivial (al (Ca 3 i) rfl rfl rfl (by simp only [ay,Nat.reduceLT]) (by repeat (first|exact trivial|constructor)) (aa ae ?_))
    simp only [ak,fl,gp,aj,simprocAttr]
    refine af ?_ (hK _ ?_)<;>clear hK K
    ·first|exact trivial|omega|(simp only [ah] at *; omega)|(simp [ah] at *; omega)|simp_all
    refine qa (qk (qe (qb (qb (qe (qb ?_))))))
    simp only [Tryd.results52,cy,ak,fl,gp,aj,simprocAttr]
    all_goals (rw [lD (by omega) (by omega) hl hlt (decide_eq_true (.inl g8a)) hi2]; simp)
   cases hC4
  refine bf mixed (by kernel_rfl) fun K hK=>aa ae ?_
  simp only [ak,fl,gp,aj,simprocAttr,aW hlt,decide_eq_false g8a]
  refine af ?_ (hK _ ?_)<;>clear hK K
  ·first|exact trivial|omega|(simp only [ah] at *; omega)|(simp [ah] at *; omega)|simp_all
  refine qa ?_
  refine an rfl (fun hC4=>?_) (fun hC4=>?_)
  ·(try simp only [aI] at hC4)
   refine qm ?_
   refine ab fun K hK=>aa ae ?_
   simp only [ak,fl,gp,aj,simprocAttr]
   refine ao trivial (al (Ca 3 i) rfl rfl rfl (by simp only [ay,Nat.reduceLT]) (by repeat (first|exact trivial|constructor)) (aa ae ?_))
   simp only [ak,fl,gp,aj,simprocAttr]
   refine af ?_ (hK _ ?_)<;>clear hK K
   ·first|exact trivial|omega|(simp only [ah] at *; omega)|(simp [ah] at *; omega)|simp_all
   refine qa (qk (qe (qb (qb (qe (qb ?_))))))
   simp only [Tryd.results52,cy,ak,fl,gp,aj,simprocAttr]
   all_goals (rw [lD (by omega) (by omega) hl hlt (decide_eq_true (.inr hC4)) hi2]; simp)
  (try simp only [aI] at hC4)
  refine qh (qd (qa ?_))
  refine ab fun K hK=>aa ae ?_
  simp only [ak,fl,gp,aj,simprocAttr]
  refine af ?_ (hK _ ?_)<;>clear hK K
  ·first|exact trivial|omega|(simp only [ah] at *; omega)|(simp [ah] at *; omega)|simp_all
  refine qa ?_
  refine ⟨i + 1,[0,1],⟨by omega,fun j hj=>?_⟩,by omega,?_⟩
  ·by_cases hj:j=i
   ·subst hj; exact decide_eq_false (by omega)
   exact hi2 j (by omega)
  simp only [leq,bh,ak,fl,gp,aj,simprocAttr]<;>omega
 (try simp only [aI] at hC3)
 have T:rS n m:=by
  refine ⟨by omega,by omega,hl,fun j hj=>?_⟩
  have:=of_decide_eq_false (hi2 j (by omega))
  omega
 refine qj (qc (qc (qf (qa (qm (qm ?_))))))
 refine ab fun K hK=>aa ae ?_
 simp only [ak,fl,gp,aj,simprocAttr]
 refine ao trivial (al (Ho T) rfl rfl rfl (by simp only [ay,Nat.reduceLT]) (by repeat (first|exact trivial|constructor)) (aa ae ?_))
 simp only [ak,fl,gp,aj,simprocAttr]
 refine af ?_ (hK _ ?_)<;>clear hK K
 ·first|exact trivial|omega|(simp only [ah] at *; omega)|(simp [ah] at *; omega)|simp_all
 refine qa ?_
 refine an rfl (fun hC5=>?_) (fun hC5=>?_)
 ·(try simp only [aI] at hC5)
  refine qm ?_
  refine ab fun K hK=>aa ae ?_
  simp only [ak,fl,gp,aj,simprocAttr]
  refine ao trivial (al (Ca 6 0) rfl rfl rfl (by simp only [ay,Nat.reduceLT]) (by repeat (first|exact trivial|constructor)) (aa ae ?_))
  simp only [ak,fl,gp,aj,simprocAttr]
  refine af ?_ (hK _ ?_)<;>clear hK K
  ·first|exact trivial|omega|(simp only [ah] at *; omega)|(simp [ah] at *; omega)|simp_all
  refine qa (qk (qb ?_))
  simp only [Tryd.results52,cy,ak,fl,gp,aj,simprocAttr]
  all_goals (rw [ij T,Dm hC5]; simp)
 (try simp only [aI] at hC5)
 refine qh (qa (qm (qm ?_)))
 refine ab fun K hK=>aa ae ?_
 simp only [ak,fl,gp,aj,simprocAttr]
 refine af trivial (hK _ ?_)<;>clear hK K
 refine qa (ql ?_)
 refine aA (ι:=Nat) (fun a=>⟨104,[(1,.ptr 0 0),(2,.ptr 1 0),(4,.p (.int .i64 a))],[.own [.p (.int .i64 n),.p (.list (il m))],.own [.p (.int .i64 0),.p (.int .i64 0)]]⟩) (fun a=>a≤n∧∀ j,j < a→tV m n j) (fun a=>n - a) 0 ⟨Nat.zero_le _,fun j hj=>by omega⟩ [0,1] (by simp only [leq,bh,ak,fl,gp,aj,simprocAttr]<;>trivial) fun a ha=>?_
 obtain ⟨ha1,ha2⟩:=ha
 refine qm (qm ?_)
 refine ab fun K hK=>aa ae ?_
 simp only [ak,fl,gp,aj,simprocAttr]
 refine af ?_ (hK _ ?_)<;>clear hK K
 ·first|exact trivial|omega|(simp only [ah] at *; omega)|(simp [ah] at *; omega)|simp_all
 refine qa ?_
 refine an rfl (fun hC6=>?_) (fun hC6=>?_)
 ·(try simp only [aI] at hC6)
  have hal:a < n:=by omega
  refine qh (qa (qm (ql (qm ?_))))
  refine ab fun K hK=>aa ae ?_
  simp only [ak,fl,gp,aj,simprocAttr]
  refine af trivial (hK _ ?_)<;>clear hK K
  refine qa (ql ?_)
  refine aA (ι:=Nat) (fun b=>⟨104,[(1,.ptr 0 0),(2,.ptr 1 0),(4,.p (.int .i64 a)),(5,.p (.int .i64 b))],[.own [.p (.int .i64 n),.p (.list (il m))],.own [.p (.int .i64 0),.p (.int .i64 0)]]⟩) (fun b=>b≤n∧∀ j,j < b→∀ c,c < n→op m n (op m n a j) c=op m n a (op m n j c)) (fun b=>n - b) 0 ⟨Nat.zero_le _,fun j hj=>by omega⟩ [0,1] (by simp only [leq,bh,ak,fl,gp,aj,simprocAttr]<;>trivial) fun b hb=>?_
  obtain ⟨hb1,hb2⟩:=hb
  refine qm (qm ?_)
  refine ab fun K hK=>aa ae ?_
  simp only [ak,fl,gp,aj,simprocAttr]
  refine af ?_ (hK _ ?_)<;>clear hK K
  ·first|exact trivial|omega|(simp only [ah] at *; omega)|(simp [ah] at *; omega)|simp_all
  refine qa ?_
  refine an rfl (fun hC7=>?_) (fun hC7=>?_)
  ·(try simp only [aI] at hC7)
   have hbl:b < n:=by omega
   refine qh (qa (qm (ql (qm ?_))))
   refine ab fun K hK=>aa ae ?_
   simp only [ak,fl,gp,aj,simprocAttr]
   refine af trivial (hK _ ?_)<;>clear hK K
   refine qa (ql ?_)
   refine aA (ι:=Nat) (fun c=>⟨104,[(1,.ptr 0 0),(2,.ptr 1 0),(4,.p (.int .i64 a)),(5,.p (.int .i64 b)),(6,.p (.int .i64 c))],[.own [.p (.int .i64 n),.p (.list (il m))],.own [.p (.int .i64 0),.p (.int .i64 0)]]⟩) (fun c=>c≤n∧∀ j,j < c→op m n (op m n a b) j=op m n a (op m n b j)) (fun c=>n - c) 0 ⟨Nat.zero_le _,fun j hj=>by omega⟩ [0,1] (by simp only [leq,bh,ak,fl,gp,aj,simprocAttr]<;>trivial) fun c hc=>?_
   obtain ⟨hc1,hc2⟩:=hc
   refine qm (qm ?_)
   refine ab fun K hK=>aa ae ?_
   simp only [ak,fl,gp,aj,simprocAttr]
   refine af ?_ (hK _ ?_)<;>clear hK K
   ·first|exact trivial|omega|(simp only [ah] at *; omega)|(simp [ah] at *; omega)|simp_all
   refine qa ?_
   refine an rfl (fun hC8=>?_) (fun hC8=>?_)
   ·(try simp only [aI] at hC8)
    have hcl:c < n:=by omega
    refine qh (qa (qm (ql (qm ?_))))
    refine bf mixed (by kernel_rfl) fun K hK=>aa ae ?_
    simp only [ak,fl,gp,aj,simprocAttr]
    refine ao trivial (al (xm T hal hbl) rfl rfl rfl (by simp only [ay,Nat.reduceLT]) (by repeat (first|exact trivial|constructor)) (aa ae ?_))
    simp only [ak,fl,gp,aj,simprocAttr]
    refine ao trivial (al (xm T (T.lt hal hbl) hcl) rfl rfl rfl (by simp only [ay,Nat.reduceLT]) (by repeat (first|exact trivial|constructor)) (aa ae ?_))
    simp only [ak,fl,gp,aj,simprocAttr]
    refine ao trivial (al (xm T hbl hcl) rfl rfl rfl (by simp only [ay,Nat.reduceLT]) (by repeat (first|exact trivial|constructor)) (aa ae ?_))
    simp only [ak,fl,gp,aj,simprocAttr]
    refine ao trivial (al (xm T hal (T.lt hbl hcl)) rfl rfl rfl (by simp only [ay,Nat.reduceLT]) (by repeat (first|exact trivial|constructor)) (aa ae ?_))
    simp only [ak,fl,gp,aj,simprocAttr]
    refine af ?_ (hK _ ?_)<;>clear hK K
    ·first|exact trivial|omega|(simp only [ah] at *; omega)|(simp [ah] at *; omega)|simp_all
    refine qa ?_
    refine an rfl (fun hC9=>?_) (fun hC9=>?_)
    ·(try simp only [aI] at hC9)
     refine qm ?_
     refine ab fun K hK=>aa ae ?_
     simp only [ak,fl,gp,aj,simprocAttr]
     refine ao trivial (al (Ca 7 a) rfl rfl rfl (by simp only [ay,Nat.reduceLT]) (by repeat (first|exact trivial|constructor)) (aa ae ?_))
     simp only [ak,fl,gp,aj,simprocAttr]
     refine af ?_ (hK _ ?_)<;>clear hK K
     ·first|exact trivial|omega|(simp only [ah] at *; omega)|(simp [ah] at *; omega)|simp_all
     refine qa (qk (qe (qb (qb (qe (qe (qb (qb (qe (qe (qb (qb (qe (qb ?_))))))))))))))
     simp only [Tryd.results52,cy,ak,fl,gp,aj,simprocAttr]
     all_goals (rw [ij T,Da hC5 hal (fun h=>hC9 (by rw [h b hbl c hcl])) ha2]; simp)
    (try simp only [aI] at hC9)
    refine qh (qd (qa ?_))
    refine ab fun K hK=>aa ae ?_
    simp only [ak,fl,gp,aj,simprocAttr]
    refine af ?_ (hK _ ?_)<;>clear hK K
    ·first|exact trivial|omega|(simp only [ah] at *; omega)|(simp [ah] at *; omega)|simp_all
    refine qa ?_
    refine ⟨c + 1,[0,1],⟨by omega,fun j hj=>?_⟩,by omega,?_⟩
    ·by_cases hj:j=c
     ·subst hj; omega
     exact hc2 j (by omega)
    simp only [leq,bh,ak,fl,gp,aj,simprocAttr]<;>omega
   (try simp only [aI] at hC8)
   refine qj (qc (qc (qf (qd (qa ?_)))))
   refine ab fun K hK=>aa ae ?_
   simp only [ak,fl,gp,aj,simprocAttr]
   refine af ?_ (hK _ ?_)<;>clear hK K
   ·first|exact trivial|omega|(simp only [ah] at *; omega)|(simp [ah] at *; omega)|simp_all
   refine qa ?_
   refine ⟨b + 1,[0,1],⟨by omega,fun j hj=>?_⟩,by omega,?_⟩
   ·by_cases hj:j=b
    ·subst hj; exact fun c' hc'=>hc2 c' (by omega)
    exact hb2 j (by omega)
   simp only [leq,bh,ak,fl,gp,aj,simprocAttr]<;>omega
  (try simp only [aI] at hC7)
  refine qj (qc (qc (qf (qd (qa ?_)))))
  refine ab fun K hK=>aa ae ?_
  simp only [ak,fl,gp,aj,simprocAttr]
  refine af ?_ (hK _ ?_)<;>clear hK K
  ·first|exact trivial|omega|(simp only [ah] at *; omega)|(simp [ah] at *; omega)|simp_all
  refine qa ?_
  refine ⟨a + 1,[0,1],⟨by omega,fun j hj=>?_⟩,by omega,?_⟩
  ·by_cases hj:j=a
   ·subst hj; exact fun c' hc'=>hb2 c' (by omega)
   exact ha2 j (by omega)
  simp only [leq,bh,ak,fl,gp,aj,simprocAttr]<;>omega
 (try simp only [aI] at hC6)
 refine qj (qc (qc (qf (qa (qm (qm ?_))))))
 refine ab fun K hK=>aa ae ?_
 simp only [ak,fl,gp,aj,simprocAttr]
 refine af trivial (hK _ ?_)<;>clear hK K
 refine qa (ql ?_)
 refine aA (ι:=Nat) (fun a=>⟨104,[(1,.ptr 0 0),(2,.ptr 1 0),(7,.p (.int .i64 a))],[.own [.p (.int .i64 n),.p (.list (il m))],.own [.p (.int .i64 0),.p (.int .i64 0)]]⟩) (fun a=>a≤n∧∀ j,j < a→¬ iI m n j < 0) (fun a=>n - a) 0 ⟨Nat.zero_le _,fun j hj=>by omega⟩ [0,1] (by simp only [leq,bh,ak,fl,gp,aj,simprocAttr]<;>trivial) fun k hk=>?_
 obtain ⟨hk1,hk2⟩:=hk
 refine qm (qm ?_)
 refine ab fun K hK=>aa ae ?_
 simp only [ak,fl,gp,aj,simprocAttr]
 refine af ?_ (hK _ ?_)<;>clear hK K
 ·first|exact trivial|omega|(simp only [ah] at *; omega)|(simp [ah] at *; omega)|simp_all
 refine qa ?_
 refine an rfl (fun hC10=>?_) (fun hC10=>?_)
 ·(try simp only [aI] at hC10)
  have hkl:k < n:=by omega
  refine qh (qa (qm (ql (qm ?_))))
  refine ab fun K hK=>aa ae ?_
  simp only [ak,fl,gp,aj,simprocAttr]
  refine ao trivial (al (Ig T hkl) rfl rfl rfl (by simp only [ay,Nat.reduceLT]) (by repeat (first|exact trivial|constructor)) (aa ae ?_))
  simp only [ak,fl,gp,aj,simprocAttr]
  refine af ?_ (hK _ ?_)<;>clear hK K
  ·first|exact trivial|omega|(simp only [ah] at *; omega)|(simp [ah] at *; omega)|simp_all
  refine qa ?_
  refine an rfl (fun hC11=>?_) (fun hC11=>?_)
  ·(try simp only [aI] at hC11)
   refine qm ?_
   refine ab fun K hK=>aa ae ?_
   simp only [ak,fl,gp,aj,simprocAttr]
   refine ao trivial (al (Ca 4 k) rfl rfl rfl (by simp only [ay,Nat.reduceLT]) (by repeat (first|exact trivial|constructor)) (aa ae ?_))
   simp only [ak,fl,gp,aj,simprocAttr]
   refine af ?_ (hK _ ?_)<;>clear hK K
   ·first|exact trivial|omega|(simp only [ah] at *; omega)|(simp [ah] at *; omega)|simp_all
   refine qa (qk (qe (qb (qb (qe (qb ?_))))))
   simp only [Tryd.results52,cy,ak,fl,gp,aj,simprocAttr]
   all_goals (rw [ij T,DE hC5 (fun j hj=>ha2 j (by omega)) hkl hC11 hk2]; simp)
  (try simp only [aI] at hC11)
  refine qh (qd (qa ?_))
  refine ab fun K hK=>aa ae ?_
  simp only [ak,fl,gp,aj,simprocAttr]
  refine af ?_ (hK _ ?_)<;>clear hK K
  ·first|exact trivial|omega|(simp only [ah] at *; omega)|(simp [ah] at *; omega)|simp_all
  refine qa ?_
  refine ⟨k + 1,[0,1],⟨by omega,fun j hj=>?_⟩,by omega,?_⟩
  ·by_cases hj:j=k
   ·subst hj; omega
   exact hk2 j (by omega)
  simp only [leq,bh,ak,fl,gp,aj,simprocAttr]<;>omega
 (try simp only [aI] at hC10)
 refine qj (qc (qc (qf (qa (qm ?_)))))
 refine ab fun K hK=>aa ae ?_
 simp only [ak,fl,gp,aj,simprocAttr]
 refine af ?_ (hK _ ?_)<;>clear hK K
 ·first|exact trivial|omega|(simp only [ah] at *; omega)|(simp [ah] at *; omega)|simp_all
 refine qa (qk ?_)
 simp only [Tryd.results52,cy,ak,fl,gp,aj,simprocAttr]
 all_goals (rw [ij T,Ag hC5 (fun j hj=>ha2 j (by omega)) (fun j hj=>hk2 j (by omega))]; simp)
theorem oo {m:List Int} {n a b:Nat} (ha:a < n) (hb:b < n) (h1:rP m n a) (h2:rP m n b):a=b:=by
 have e1:=(h1 b hb).1
 have e2:=(h2 a ha).2
 omega
theorem lh (m:List Int) (n:Nat):(eI m n = -1∧∀ a,a < n→¬ rP m n a)∨∃ e,e < n∧rP m n e∧eI m n=(e:Nat):=by
 unfold eI
 cases h:bO (fun a=>decide (rP m n a)) n with
 | none=>exact .inl ⟨rfl,fun a ha=>of_decide_eq_false (ca h a ha)⟩
 | some e =>
  obtain ⟨h1,h2,_⟩:=cE h
  exact .inr ⟨e,h1,of_decide_eq_true h2,rfl⟩
theorem GB {m:List Int} {n e:Nat} (he:e < n) (h:rP m n e):eI m n=(e:Nat):=by
 rcases lh m n with ⟨_,h2⟩ | ⟨e',h1,h2,h3⟩
 ·exact absurd h (h2 e he)
 rw [h3,oo he h1 h h2]
theorem lI (m:List Int) (n a:Nat):(iI m n a = -1∧∀ b,b < n→¬ (((op m n a b:Nat):Int)=eI m n∧((op m n b a:Nat):Int)=eI m n)) ∨
  ∃ b,b < n∧((op m n a b:Nat):Int)=eI m n∧((op m n b a:Nat):Int)=eI m n∧iI m n a=(b:Nat):=by
 unfold iI
 cases h:bO (fun b=>decide (((op m n a b:Nat):Int)=eI m n∧((op m n b a:Nat):Int)=eI m n)) n with
 | none=>exact .inl ⟨rfl,fun b hb=>of_decide_eq_false (ca h b hb)⟩
 | some b =>
  obtain ⟨h1,h2,_⟩:=cE h
  have h2:=of_decide_eq_true h2
  exact .inr ⟨b,h1,h2.1,h2.2,rfl⟩
def GT (N:Int) (m:List Int) (n e:Nat):Prop:=N=(n:Int)∧rS n m∧dF n (op m n) e
theorem Dt {N:Int} {m:List Int} (h:(gf N m).1=0):∃ n e,GT N m n e∧eI m n=(e:Nat):=by
 unfold gf at h
 by_cases h1:N < 1∨N > 60
 ·rw [if_pos h1] at h; simp at h
 rw [if_neg h1] at h
 obtain ⟨n,rfl⟩:=Int.eq_ofNat_of_zero_le (show 0≤N by omega)
 have hsq:=mj n
 by_cases h2:(m.length:Int)=(n:Int) * n
 ·rw [if_neg (by simpa using h2)] at h
  cases h3:bO (bad n m) m.length with
  | some i=>rw [h3] at h; simp at h
  | none =>
   rw [h3] at h
   have hl:m.length=n * n:=by omega
   have T:rS n m:=by
    refine ⟨by omega,by omega,hl,fun j hj=>?_⟩
    have:=of_decide_eq_false (ca h3 j (by omega))
    omega
   simp only [Int.toNat_natCast] at h
   unfold AR at h
   by_cases h4:eI m n < 0
   ·rw [if_pos h4] at h; simp at h
   rw [if_neg h4] at h
   rcases lh m n with ⟨h5,_⟩ | ⟨e,he,hE,heq⟩
   ·omega
   cases h6:bO (fun a=>decide (¬ tV m n a)) n with
   | some a=>rw [h6] at h; simp at h
   | none =>
    rw [h6] at h
    simp only at h
    have hasc:∀ a,a < n→tV m n a:=fun a ha=>by
     have:=of_decide_eq_false (ca h6 a ha)
     exact Classical.not_not.1 this
    cases h7:bO (fun a=>decide (iI m n a < 0)) n with
    | some a=>rw [h7] at h; simp at h
    | none =>
     have hinv:∀ a,a < n→¬ iI m n a < 0:=fun a ha=>of_decide_eq_false (ca h7 a ha)
     refine ⟨n,e,⟨rfl,T,⟨by omega,fun a b ha hb=>T.lt ha hb,he,fun a ha=>(hE a ha).1,fun a ha=>(hE a ha).2,fun a b c ha hb hc=>hasc a ha b hb c hc,fun a ha=>?_⟩⟩,heq⟩
     rcases lI m n a with ⟨h8,_⟩ | ⟨b,hb,h8,h9,_⟩
     ·have:=hinv a ha; omega
     exact ⟨b,hb,by omega,by omega⟩
 rw [if_pos h2] at h; simp at h
theorem GT.one {N:Int} {m:List Int} {n e:Nat} (h:GT N m n e):rP m n e:=fun b hb=>⟨h.2.2.one_l b hb,h.2.2.one_r b hb⟩
theorem GT.eI {N:Int} {m:List Int} {n e:Nat} (h:GT N m n e):eI m n=(e:Nat):=GB h.2.2.el h.one
theorem GT.iI {N:Int} {m:List Int} {n e a:Nat} (h:GT N m n e) (ha:a < n):iI m n a=(iv n (op m n) e a:Nat):=by
 have G:=h.2.2
 rcases lI m n a with ⟨_,h2⟩ | ⟨b,hb,h8,h9,h10⟩
 ·exact absurd ⟨by rw [h.eI,G.eC ha],by rw [h.eI,G.eb ha]⟩ (h2 _ (G.az ha))
 rw [h10]
 rw [h.eI] at h8
 rw [G.eD ha hb (.inl (by omega))]
theorem zV {N:Int} {m:List Int} {n e:Nat} (h:GT N m n e):gf N m=(0,0):=by
 obtain ⟨rfl,T,G⟩:=h
 have h' : GT n m n e:=⟨rfl,T,G⟩
 rw [ij T,Ag (by rw [h'.eI]; omega) (fun a ha b hb c hc=>G.assoc a b c ha hb hc) fun a ha=>by rw [h'.iI ha]; omega]
theorem xD {n:Nat} {f:Nat→Nat→Nat} {e:Nat} (hcl:∀ a b,a < n→b < n→f a b < n) (he:e < n) (hl:∀ a,a < n→f e a=a) (hr:∀ a,a < n→f a e=a)
  (has:∀ a b c,a < n→b < n→c < n→f (f a b) c=f a (f b c)) {a b:Nat} (ha:a < n) (hb:b < n) (h:f a b=e):f b a=e:=by
 obtain ⟨c,hc,h1⟩:=so (f:=f b) (fun i hi=>hcl b i hb hi) (fun i j hi hj hij=>by
  have h2:f a (f b i)=f a (f b j):=by rw [hij]
  rwa [← has a b i ha hb hi,← has a b j ha hb hj,h,hl i hi,hl j hj] at h2) he
 have:a=c:=by
  have h2:=has a b c ha hb hc
  rw [h,h1,hl c hc,hr a ha] at h2
  exact h2.symm
 rw [this]; exact h1
def HT (N:Int) (l:List Int) (i:Nat):Prop:=¬ (l.getD i 0 < 0∨l.getD i 0 ≥ N)
instance (N:Int) (l:List Int) (i:Nat):Decidable (HT N l i):=by unfold HT; infer_instance
def tf (N:Int) (m l:List Int):Int × Int:=
 if ¬ (gf N m).1=0 then gf N m
 else match bO (fun i=>decide (¬ HT N l i)) l.length with
  | some i=>(3,(i:Int) + 1)
  | none=>(0,0)
theorem H4 {n e:Nat} {m:List Int} (h:GT n m n e) {a:Nat} (ha:a < n):cL Tryd.prog 89 [gp n m,.int .i64 a] (.int .i64 (ord n (op m n) e a:Nat)):=by
 have G:=h.2.2
 have T:=h.2.1
 have hb:=T.big
 obtain ⟨o1,o2,o3,o4⟩:=G.jw ha
 refine aM ae Tryd.func89 rfl (by kernel_rfl) (by rw [Tryd.ntmps89]; exact Nat.le_add_left 2 _) ?_; rw [Tryd.ntmps89]
 refine qm ?_
 refine ab fun K hK=>aa ae ?_
 simp only [ak,fl,gp,aj,simprocAttr]
 refine af ?_ (hK _ ?_)<;>clear hK K
 ·first|exact trivial|omega|(simp only [ah] at *; omega)|(simp [ah] at *; omega)|simp_all
 refine qa (qm ?_)
 refine ab fun K hK=>aa ae ?_
 simp only [ak,fl,gp,aj,simprocAttr]
 refine ao trivial (al (Ho T) rfl rfl rfl (by simp only [ay,Nat.reduceLT]) (by repeat (first|exact trivial|constructor)) (aa ae ?_))
 simp only [ak,fl,gp,aj,simprocAttr,h.eI]
 refine af ?_ (hK _ ?_)<;>clear hK K
 ·first|exact trivial|omega|(simp only [ah] at *; omega)|(simp [ah] at *; omega)|simp_all
 refine qa (qm ?_)
 refine ab fun K hK=>aa ae ?_
 simp only [ak,fl,gp,aj,simprocAttr]
 refine af trivial (hK _ ?_)<;>clear hK K
 refine qa (qm ?_)
 refine ab fun K hK=>aa ae ?_
 simp only [ak,fl,gp,aj,simprocAttr]
 refine af trivial (hK _ ?_)<;>clear hK K
 refine qa (qm (ql ?_))
 refine aA (ι:=Nat) (fun k=>⟨21,[(1,.p (.int .i64 a)),(2,.ptr 0 0),(5,.p (.int .i64 e)),(6,.p (.int .i64 (pw (op m n) e a k:Nat))),(7,.p (.int .i64 k))],[.own [.p (.int .i64 n),.p (.list (il m))]]⟩) (fun k=>1≤k∧k≤ord n (op m n) e a) (fun k=>ord n (op m n) e a - k) 1 ⟨Nat.le_refl _,o1⟩ [0] (by rw [G.qT ha]; simp only [leq,bh,ak,fl,gp,aj,simprocAttr]<;>trivial) fun k hk=>?_
 obtain ⟨hk1,hk2⟩:=hk
 refine qm (qm ?_)
 refine ab fun K hK=>aa ae ?_
 simp only [ak,fl,gp,aj,simprocAttr]
 refine af trivial (hK _ ?_)<;>clear hK K
 refine qa ?_
 refine an rfl (fun hC1=>?_) (fun hC1=>?_)
 ·(try simp only [aI] at hC1)
  have hne:k ≠ ord n (op m n) e a:=fun h=>hC1 (by rw [h,o3])
  refine qh (qa (ql (qm ?_)))
  refine ab fun K hK=>aa ae ?_
  simp only [ak,fl,gp,aj,simprocAttr]
  refine ao trivial (al (xm T ha (G.dJ ha k)) rfl rfl rfl (by simp only [ay,Nat.reduceLT]) (by repeat (first|exact trivial|constructor)) (aa ae ?_))
  simp only [ak,fl,gp,aj,simprocAttr,(G.oa ha k).symm]
  refine af ?_ (hK _ ?_)<;>clear hK K
  ·first|exact trivial|omega|(simp only [ah] at *; omega)|(simp [ah] at *; omega)|simp_all
  refine qa ?_
  refine ab fun K hK=>aa ae ?_
  simp only [ak,fl,gp,aj,simprocAttr]
  refine af ?_ (hK _ ?_)<;>clear hK K
  ·first|exact trivial|omega|(simp only [ah] at *; omega)|(simp [ah] at *; omega)|simp_all
  refine qd (qa ?_)
  refine ⟨k + 1,[0],⟨by omega,by omega⟩,by omega,?_⟩
  simp only [leq,bh,ak,fl,gp,aj,simprocAttr]<;>omega
 (try simp only [aI] at hC1)
 have hek:k=ord n (op m n) e a:=by
  rcases Nat.lt_or_ge k (ord n (op m n) e a) with hlt | hge
  ·exact absurd (by omega) (o4 k hk1 hlt)
  omega
 refine qj (qc (qc (qf (qa (qm ?_)))))
 refine ab fun K hK=>aa ae ?_
 simp only [ak,fl,gp,aj,simprocAttr]
 refine af trivial (hK _ ?_)<;>clear hK K
 refine qa (qk ?_)
 simp only [Tryd.results89,cy,ak,fl,gp,aj,simprocAttr]
 all_goals (rw [hek])
def Gr (m:List Int) (n:Nat):Prop:=∀ a,a < n→∀ b,b < n→op m n a b=op m n b a
instance (m:List Int) (n:Nat):Decidable (Gr m n):=by unfold Gr; infer_instance
theorem Ak (v w:List Int) (hl:v.length≤1000000000000000):cL Tryd.prog 30 [.list (il v),.list (il w)] (.bool (decide (v=w))):=by
 refine aM ae Tryd.func30 rfl (by kernel_rfl) (by rw [Tryd.ntmps30]; exact Nat.le_add_left 2 _) ?_; rw [Tryd.ntmps30]
 refine qm ?_
 refine ab fun K hK=>aa ae ?_
 simp only [ak,fl,gp,aj,simprocAttr]
 refine af trivial (hK _ ?_)<;>clear hK K
 refine qa (qm (qm ?_))
 refine ab fun K hK=>aa ae ?_
 simp only [ak,fl,gp,aj,simprocAttr]
 refine af trivial (hK _ ?_)<;>clear hK K
 refine qa ?_
 refine an rfl (fun hC1=>?_) (fun hC1=>?_)
 ·(try simp only [aI] at hC1)
  refine qm ?_
  refine ab fun K hK=>aa ae ?_
  simp only [ak,fl,gp,aj,simprocAttr]
  refine af trivial (hK _ ?_)<;>clear hK K
  refine qa (qk (qb ?_))
  simp only [Tryd.results30,cy,ak,fl,gp,aj,simprocAttr]
  have:v ≠ w:=by intro h; subst h; simp at hC1
  simp [this]
 (try simp only [aI] at hC1)
 have hn:v.length=w.length:=by omega
 refine qh (qa (qm (qm ?_)))
 refine ab fun K hK=>aa ae ?_
 simp only [ak,fl,gp,aj,simprocAttr]
 refine af trivial (hK _ ?_)<;>clear hK K
 refine qa (ql ?_)
 refine aA (ι:=Nat) (fun i=>⟨26,[(0,.p (.list (il v))),(1,.p (.list (il w))),(5,.p (.int .i64 i))],[]⟩) (fun i=>i≤v.length∧v.take i=w.take i) (fun i=>v.length - i) 0 ⟨Nat.zero_le _,rfl⟩ [] (by simp only [leq,bh,ak,fl,gp,aj,simprocAttr]<;>trivial) fun i hi=>?_
 obtain ⟨hi1,hi2⟩:=hi
 refine qm (qm ?_)
 refine ab fun K hK=>aa ae ?_
 simp only [ak,fl,gp,aj,simprocAttr]
 refine af trivial (hK _ ?_)<;>clear hK K
 refine qa ?_
 refine an rfl (fun hC2=>?_) (fun hC2=>?_)
 ·(try simp only [aI] at hC2)
  have hlt:i < v.length:=by omega
  refine qh (qa (qm (ql (qm ?_))))
  refine bf mixed (by kernel_rfl) fun K hK=>aa ae ?_
  simp only [ak,fl,gp,aj,simprocAttr,aW hlt,aW (show i < w.length by omega)]
  refine af ?_ (hK _ ?_)<;>clear hK K
  ·first|exact trivial|omega|(simp only [ah] at *; omega)|(simp [ah] at *; omega)|simp_all
  refine qa ?_
  refine an rfl (fun hC3=>?_) (fun hC3=>?_)
  ·(try simp only [aI] at hC3)
   refine qm ?_
   refine ab fun K hK=>aa ae ?_
   simp only [ak,fl,gp,aj,simprocAttr]
   refine af trivial (hK _ ?_)<;>clear hK K
   refine qa (qk (qe (qb (qb (qe (qb ?_))))))
   simp only [Tryd.results30,cy,ak,fl,gp,aj,simprocAttr]
   have:v ≠ w:=by intro h; subst h; simp at hC3
   simp [this]
  (try simp only [aI] at hC3)
  refine qh (qd (qa ?_))
  refine ab fun K hK=>aa ae ?_
  simp only [ak,fl,gp,aj,simprocAttr]
  refine af ?_ (hK _ ?_)<;>clear hK K
  ·first|exact trivial|omega|(simp only [ah] at *; omega)|(simp [ah] at *; omega)|simp_all
  refine qa ?_
  refine ⟨i + 1,[],⟨by omega,?_⟩,by omega,?_⟩
  ·rw [List.take_succ_eq_append_getElem hlt,List.take_succ_eq_append_getElem (show i < w.length by omega),hi2]
   simp [List.getD,List.getElem?_eq_getElem hlt,List.getElem?_eq_getElem (show i < w.length by omega)] at hC3
   rw [hC3]
  simp only [leq,bh,ak,fl,gp,aj,simprocAttr]<;>first|trivial|omega
 (try simp only [aI] at hC2)
 refine qj (qc (qc (qf (qa (qm ?_)))))
 refine ab fun K hK=>aa ae ?_
 simp only [ak,fl,gp,aj,simprocAttr]
 refine af trivial (hK _ ?_)<;>clear hK K
 refine qa (qk ?_)
 simp only [Tryd.results30,cy,ak,fl,gp,aj,simprocAttr]
 have:i=v.length:=by omega
 subst this
 rw [List.take_length,List.take_of_length_le (by omega)] at hi2
 simp [hi2]
theorem Hh (a b:Nat):cL Tryd.prog 88 [.int .i64 a,.int .i64 b] (.int .i64 (Nat.gcd a b:Nat)):=by
 refine aM ae Tryd.func88 rfl (by kernel_rfl) (by rw [Tryd.ntmps88]; exact Nat.le_add_left 2 _) ?_; rw [Tryd.ntmps88]
 refine qm ?_
 refine ab fun K hK=>aa ae ?_
 simp only [ak,fl,gp,aj,simprocAttr]
 refine af trivial (hK _ ?_)<;>clear hK K
 refine qa (qm (ql ?_))
 refine aA (ι:=Nat × Nat) (fun p=>⟨16,[(0,.p (.int .i64 p.1)),(1,.p (.int .i64 p.2))],[]⟩) (fun p=>Nat.gcd p.1 p.2=Nat.gcd a b) (fun p=>p.2) (a,b) rfl [] (by simp only [leq,bh,ak,fl,gp,aj,simprocAttr]<;>trivial) fun p hp=>?_
 obtain ⟨x,y⟩:=p
 simp only at hp
 refine qm (qm ?_)
 refine ab fun K hK=>aa ae ?_
 simp only [ak,fl,gp,aj,simprocAttr]
 refine af trivial (hK _ ?_)<;>clear hK K
 refine qa ?_
 refine an rfl (fun hC1=>?_) (fun hC1=>?_)
 ·(try simp only [aI] at hC1)
  have hy:0 < y:=by omega
  refine qh (qa (ql ?_))
  refine bf mixed (by kernel_rfl) fun K hK=>aa ae ?_
  simp only [ak,fl,gp,aj,simprocAttr,u4]
  refine af ?_ (hK _ ?_)<;>clear hK K
  ·first|exact trivial|omega|(simp only [ah] at *; omega)|(simp [ah] at *; omega)|simp_all
  refine qd (qa ?_)
  refine ⟨(y,x % y),[],?_,Nat.mod_lt _ hy,?_⟩
  ·show Nat.gcd y (x % y)=_
   rw [← hp,Nat.gcd_comm x y,Nat.gcd_rec y x,Nat.gcd_comm]
  simp only [leq,bh,ak,fl,gp,aj,simprocAttr]<;>trivial
 (try simp only [aI] at hC1)
 have hy:y=0:=by omega
 subst hy
 refine qj (qc (qc (qf (qa (qm (qm ?_))))))
 refine ab fun K hK=>aa ae ?_
 simp only [ak,fl,gp,aj,simprocAttr]
 refine af trivial (hK _ ?_)<;>clear hK K
 refine qa ?_
 refine an rfl (fun hC2=>?_) (fun hC2=>?_)
 ·(try simp only [aI] at hC2)
  omega
 (try simp only [aI] at hC2)
 refine qh (qa (qm ?_))
 refine ab fun K hK=>aa ae ?_
 simp only [ak,fl,gp,aj,simprocAttr]
 refine af trivial (hK _ ?_)<;>clear hK K
 refine qa (qk ?_)
 simp only [Tryd.results88,cy,ak,fl,gp,aj,simprocAttr]
 all_goals (rw [← hp,Nat.gcd_zero_right])
theorem gD (c a:Int):cL Tryd.prog 60 [.int .i64 c,.int .i64 a] (fl (c,a)):=by
 refine aM ae Tryd.func60 rfl (by kernel_rfl) (by rw [Tryd.ntmps60]; exact Nat.le_add_left 2 _) ?_; rw [Tryd.ntmps60]
 refine qm ?_
 refine ab fun K hK=>aa ae ?_
 simp only [ak,fl,gp,aj,simprocAttr]
 refine af ?_ (hK _ ?_)<;>clear hK K
 ·first|exact trivial|omega|(simp only [ah] at *; omega)|(simp [ah] at *; omega)|simp_all
 refine qa (qm ?_)
 refine ab fun K hK=>aa ae ?_
 simp only [ak,fl,gp,aj,simprocAttr]
 refine af ?_ (hK _ ?_)<;>clear hK K
 ·first|exact trivial|omega|(simp only [ah] at *; omega)|(simp [ah] at *; omega)|simp_all
 refine qa (qk ?_)
 simp only [Tryd.results60,cy,ak,fl,gp,aj,simprocAttr]
 all_goals (rfl)
theorem nj {n:Nat} {m:List Int} (T:rS n m) {a b:Nat} (ha:a < n) (hb:b < n):cL Tryd.prog 63 [gp n m,.int .i64 a,.int .i64 b] (.int .i64 (op m n a b:Nat)):=by
 have h1:=vk ha hb
 have h2:=qp T.big
 have h3:=T.len
 have hc:(a:Int) * (n:Int)=((a * n:Nat):Int):=(Int.natCast_mul a n).symm
 have hv:=T.val ha hb
 refine aM ae Tryd.func63 rfl (by kernel_rfl) (by rw [Tryd.ntmps63]; exact Nat.le_add_left 3 _) ?_; rw [Tryd.ntmps63]
 refine qm ?_
 refine ab fun K hK=>aa ae ?_
 simp only [ak,fl,gp,aj,simprocAttr]
 refine af ?_ (hK _ ?_)<;>clear hK K
 ·first|exact trivial|omega|(simp only [ah] at *; omega)|(simp [ah] at *; omega)|simp_all
 refine qa (qm ?_)
 refine ab fun K hK=>aa ae ?_
 simp only [ak,fl,gp,aj,simprocAttr,AH,aW (show a * n + b < m.length by omega),hv]
 refine af ?_ (hK _ ?_)<;>clear hK K
 ·rw [hc]; simp only [ah]; omega
 refine qa (qk ?_)
 simp only [Tryd.results63,cy,ak,fl,gp,aj,simprocAttr]
 all_goals (rfl)
def ix (l:List Int) (x:Int):Int:=match bO (fun i=>decide (l.getD i 0=x)) l.length with | some i=>(i:Int) | none=>-1
theorem wg (l:List Int) (x:Int) (hl:l.length≤1000000000000):cL Tryd.prog 81 [.list (il l),.int .i64 x] (.int .i64 (ix l x)):=by
 refine aM ae Tryd.func81 rfl (by kernel_rfl) (by rw [Tryd.ntmps81]; exact Nat.le_add_left 2 _) ?_; rw [Tryd.ntmps81]
 refine qm ?_
 refine ab fun K hK=>aa ae ?_
 simp only [ak,fl,gp,aj,simprocAttr]
 refine af trivial (hK _ ?_)<;>clear hK K
 refine qa (qm (qm ?_))
 refine ab fun K hK=>aa ae ?_
 simp only [ak,fl,gp,aj,simprocAttr]
 refine af trivial (hK _ ?_)<;>clear hK K
 refine qa (ql ?_)
 refine aA (ι:=Nat) (fun i=>⟨19,[(0,.p (.list (il l))),(1,.p (.int .i64 x)),(7,.p (.int .i64 l.length)),(8,.p (.int .i64 i))],[]⟩) (fun i=>i≤l.length∧∀ j,j < i→¬ l.getD j 0=x) (fun i=>l.length - i) 0 ⟨Nat.zero_le _,fun j hj=>by omega⟩ [] (by simp only [leq,bh,ak,fl,gp,aj,simprocAttr]<;>trivial) fun i hi=>?_
 obtain ⟨hi1,hi2⟩:=hi
 refine qm ?_
 refine ab fun K hK=>aa ae ?_
 simp only [ak,fl,gp,aj,simprocAttr]
 refine af trivial (hK _ ?_)<;>clear hK K
 refine qa (qm ?_)
 refine an rfl (fun hC1=>?_) (fun hC1=>?_)
 ·(try simp only [aI] at hC1)
  have hlt:i < l.length:=by omega
  refine qh (qa (qm (ql (qm ?_))))
  refine ab fun K hK=>aa ae ?_
  simp only [ak,fl,gp,aj,simprocAttr]
  refine af trivial (hK _ ?_)<;>clear hK K
  refine qa (qm ?_)
  refine ab fun K hK=>aa ae ?_
  simp only [ak,fl,gp,aj,simprocAttr,aW hlt]
  refine af ?_ (hK _ ?_)<;>clear hK K
  ·first|exact trivial|omega|(simp only [ah] at *; omega)|(simp [ah] at *; omega)|simp_all
  refine qa ?_
  refine an rfl (fun hC2=>?_) (fun hC2=>?_)
  ·(try simp only [aI] at hC2)
   refine qm ?_
   refine ab fun K hK=>aa ae ?_
   simp only [ak,fl,gp,aj,simprocAttr]
   refine af trivial (hK _ ?_)<;>clear hK K
   refine qa (qk (qe (qb (qb (qe (qb ?_))))))
   simp only [Tryd.results81,cy,ak,fl,gp,aj,simprocAttr]
   all_goals (unfold ix; rw [dc hlt (decide_eq_true hC2.symm) fun j hj=>decide_eq_false (hi2 j hj)])
  (try simp only [aI] at hC2)
  refine qh (qd (qa ?_))
  refine ab fun K hK=>aa ae ?_
  simp only [ak,fl,gp,aj,simprocAttr]
  refine af ?_ (hK _ ?_)<;>clear hK K
  ·first|exact trivial|omega|(simp only [ah] at *; omega)|(simp [ah] at *; omega)|simp_all
  refine qa ?_
  refine ⟨i + 1,[],⟨by omega,fun j hj=>?_⟩,by omega,?_⟩
  ·by_cases hj:j=i
   ·subst hj; exact fun h=>hC2 h.symm
   exact hi2 j (by omega)
  simp only [leq,bh,ak,fl,gp,aj,simprocAttr]<;>first|trivial|omega
 (try simp only [aI] at hC1)
 refine qj (qc (qc (qf (qa (qm ?_)))))
 refine ab fun K hK=>aa ae ?_
 simp only [ak,fl,gp,aj,simprocAttr]
 refine af trivial (hK _ ?_)<;>clear hK K
 refine qa (qk ?_)
 simp only [Tryd.results81,cy,ak,fl,gp,aj,simprocAttr]
 all_goals (unfold ix; rw [ep fun j hj=>decide_eq_false (hi2 j (by omega))])
theorem EA (l:List Int) (x:Int):ix l x ≥ 0↔∃ i,i < l.length∧l.getD i 0=x:=by
 unfold ix
 cases h:bO (fun i=>decide (l.getD i 0=x)) l.length with
 | none =>
  constructor
  ·intro h; simp at h
  rintro ⟨i,hi,e⟩
  exact absurd e (of_decide_eq_false (ca h i hi))
 | some i =>
  obtain ⟨h1,h2,_⟩:=cE h
  exact ⟨fun _=>⟨i,h1,of_decide_eq_true h2⟩,fun _=>by simp⟩
theorem uG (l:List Int) (x:Int) (hl:l.length≤1000000000000):cL Tryd.prog 72 [.list (il l),.int .i64 x] (.bool (decide (ix l x ≥ 0))):=by
 refine aM ae Tryd.func72 rfl (by kernel_rfl) (by rw [Tryd.ntmps72]; exact Nat.le_add_left 2 _) ?_; rw [Tryd.ntmps72]
 refine qm ?_
 refine ab fun K hK=>aa ae ?_
 simp only [ak,fl,gp,aj,simprocAttr]
 refine af trivial (hK _ ?_)<;>clear hK K
 refine qa (qm ?_)
 refine ab fun K hK=>aa ae ?_
 simp only [ak,fl,gp,aj,simprocAttr]
 refine ao trivial (al (wg l x hl) rfl rfl rfl (by simp only [ay,Nat.reduceLT]) (by repeat (first|exact trivial|constructor)) (aa ae ?_))
 simp only [ak,fl,gp,aj,simprocAttr]
 refine af trivial (hK _ ?_)<;>clear hK K
 refine qa (qk ?_)
 simp only [Tryd.results72,cy,ak,fl,gp,aj,simprocAttr]
 all_goals ((first|exact rfl|exact ⟨rfl,rfl⟩|exact ⟨rfl,rfl,rfl⟩|exact ⟨trivial,rfl⟩|exact ⟨Nat.le_refl _,rfl⟩|trivial|(simp; done)))
def row (m:List Int) (n a:Nat):List Int:=(m.drop (a * n)).take n
theorem nL {m:List Int} {n a:Nat} (T:rS n m) (ha:a < n):(row m n a).length=n:=by
 have:(a + 1) * n≤n * n:=Nat.mul_le_mul_right _ ha
 rw [Nat.add_mul,Nat.one_mul] at this
 have:=T.len
 simp [row]; omega
theorem nH {m:List Int} {n a b:Nat} (T:rS n m) (ha:a < n) (hb:b < n):(row m n a).getD b 0=((op m n a b:Nat):Int):=by
 rw [← T.val ha hb]
 simp only [row,List.getD,List.getElem?_take,if_pos hb,List.getElem?_drop]
theorem E5 {m:List Int} {n a:Nat} (T:rS n m) (ha:a < n) (x:Int):ix (row m n a) x ≥ 0↔∃ b,b < n∧((op m n a b:Nat):Int)=x:=by
 rw [EA,nL T ha]
 constructor
 ·rintro ⟨b,hb,e⟩; exact ⟨b,hb,by rw [← nH T ha hb]; exact e⟩
 rintro ⟨b,hb,e⟩; exact ⟨b,hb,by rw [nH T ha hb]; exact e⟩
def pF (m:List Int) (n:Nat):Nat→Int
 | 0=>-1
 | i + 1=>if rP m n i then (i:Int) else pF m n i
theorem vq {m:List Int} {n:Nat} (h:∀ a,a < n→¬ rP m n a):∀ i,i≤n→pF m n i = -1
 | 0,_=>rfl
 | i + 1,hi=>by simp only [pF]; rw [if_neg (h i (by omega)),vq h i (by omega)]
theorem sF {m:List Int} {n e:Nat} (he:e < n) (h:rP m n e):∀ i,i≤n→e < i→pF m n i=(e:Nat)
 | 0,_,h2=>by omega
 | i + 1,hi,h2=>by
  simp only [pF]
  by_cases hE:rP m n i
  ·rw [if_pos hE,oo he (by omega) h hE]
  rw [if_neg hE]
  have:e ≠ i:=fun h'=>hE (h' ▸ h)
  exact sF he h i (by omega) (by omega)
theorem Bp (m:List Int) (n:Nat):pF m n n=eI m n:=by
 rcases lh m n with ⟨h1,h2⟩ | ⟨e,he,h1,h2⟩
 ·rw [h1,vq h2 n (Nat.le_refl _)]
 rw [h2,sF he h1 n (Nat.le_refl _) he]
theorem yL {m:List Int} {n a:Nat} (T:rS n m) (he:¬ eI m n < 0) (hs:∀ a,a < n→tV m n a) (ha:a < n):ix (row m n a) (eI m n) ≥ 0↔¬ iI m n a < 0:=by
 rw [E5 T ha]
 rcases lh m n with ⟨h1,_⟩ | ⟨e,hel,hE,heq⟩
 ·omega
 constructor
 ·rintro ⟨b,hb,h⟩ h2
  rcases lI m n a with ⟨_,h3⟩ | ⟨b',_,_,_,h4⟩
  ·refine h3 b hb ⟨h,?_⟩
   rw [heq] at h ⊢
   have:=xD (f:=op m n) (fun a b ha hb=>T.lt ha hb) hel (fun a ha=>(hE a ha).1) (fun a ha=>(hE a ha).2) (fun a b c ha hb hc=>hs a ha b hb c hc) ha hb (by omega)
   omega
  omega
 intro h
 rcases lI m n a with ⟨h3,_⟩ | ⟨b,hb,h4,_,_⟩
 ·omega
 exact ⟨b,hb,h4⟩
theorem nY (a n:Nat):((a:Int) * (n:Int)).toNat=a * n:=by
 rw [← Int.natCast_mul]; rfl
theorem oY (a n:Nat):(((a:Int) + 1) * (n:Int)).toNat=(a + 1) * n:=by
 have:((a:Int) + 1) * (n:Int)=(((a + 1) * n:Nat):Int):=by rw [Int.natCast_mul]; rfl
 rw [this]; rfl
theorem oQ (a n:Nat):(a + 1) * n - a * n=n:=by rw [Nat.add_mul,Nat.one_mul]; omega
set_option maxHeartbeats 1000000 in
theorem wb (N:Int) (m:List Int) (hm:m.length≤1000000000000000):cL Tryd.prog 39 [gp N m] (fl (gf N m)):=by
 refine aM ae Tryd.func39 rfl (by kernel_rfl) (by rw [Tryd.ntmps39]; exact Nat.le_add_left 1 _) ?_; rw [Tryd.ntmps39]
 refine qm ?_
 refine ab fun K hK=>aa ae ?_
 simp only [ak,fl,gp,aj,simprocAttr]
 refine af ?_ (hK _ ?_)<;>clear hK K
 ·first|exact trivial|omega|(simp only [ah] at *; omega)|(simp [ah] at *; omega)|simp_all
 refine qa (qm (qm ?_))
 by_cases g1a:N < 1
 ·refine ab fun K hK=>aa ae ?_
  simp only [ak,fl,gp,aj,simprocAttr,decide_eq_true g1a]
  refine af ?_ (hK _ ?_)<;>clear hK K
  ·first|exact trivial|omega|(simp only [ah] at *; omega)|(simp [ah] at *; omega)|simp_all
  refine qa ?_
  refine an rfl (fun hC1=>?_) (fun hC1=>?_)
  ·refine qm ?_
   refine ab fun K hK=>aa ae ?_
   simp only [ak,fl,gp,aj,simprocAttr]
   refine ao trivial (al (gD 2 0) rfl rfl rfl (by simp only [ay,Nat.reduceLT]) (by repeat (first|exact trivial|constructor)) (aa ae ?_))
   simp only [ak,fl,gp,aj,simprocAttr]
   refine af ?_ (hK _ ?_)<;>clear hK K
   ·first|exact trivial|omega|(simp only [ah] at *; omega)|(simp [ah] at *; omega)|simp_all
   refine qa (qk (qb ?_))
   simp only [Tryd.results39,cy,ak,fl,gp,aj,simprocAttr]
   all_goals (unfold gf; rw [if_pos (.inl g1a)]; simp)
  cases hC1
 refine ab fun K hK=>aa ae ?_
 simp only [ak,fl,gp,aj,simprocAttr,decide_eq_false g1a]
 refine af ?_ (hK _ ?_)<;>clear hK K
 ·first|exact trivial|omega|(simp only [ah] at *; omega)|(simp [ah] at *; omega)|simp_all
 refine qa ?_
 refine an rfl (fun hC1=>?_) (fun hC1=>?_)
 ·(try simp only [aI] at hC1)
  refine qm ?_
  refine ab fun K hK=>aa ae ?_
  simp only [ak,fl,gp,aj,simprocAttr]
  refine ao trivial (al (gD 2 0) rfl rfl rfl (by simp only [ay,Nat.reduceLT]) (by repeat (first|exact trivial|constructor)) (aa ae ?_))
  simp only [ak,fl,gp,aj,simprocAttr]
  refine af ?_ (hK _ ?_)<;>clear hK K
  ·first|exact trivial|omega|(simp only [ah] at *; omega)|(simp [ah] at *; omega)|simp_all
  refine qa (qk (qb ?_))
  simp only [Tryd.results39,cy,ak,fl,gp,aj,simprocAttr]
  all_goals (unfold gf; rw [if_pos (.inr hC1)]; simp)
 (try simp only [aI] at hC1)
 obtain ⟨n,rfl⟩:=Int.eq_ofNat_of_zero_le (show 0≤N by omega)
 have hnn:=mj n
 have hsq:=qp (show n≤60 by omega)
 refine qh (qa (qm (qm ?_)))
 refine ab fun K hK=>aa ae ?_
 simp only [ak,fl,gp,aj,simprocAttr]
 refine af ?_ (hK _ ?_)<;>clear hK K
 ·simp only [ah]; omega
 refine qa ?_
 refine an rfl (fun hC2=>?_) (fun hC2=>?_)
 ·(try simp only [aI] at hC2)
  refine qm ?_
  refine ab fun K hK=>aa ae ?_
  simp only [ak,fl,gp,aj,simprocAttr]
  refine ao trivial (al (gD 8 0) rfl rfl rfl (by simp only [ay,Nat.reduceLT]) (by repeat (first|exact trivial|constructor)) (aa ae ?_))
  simp only [ak,fl,gp,aj,simprocAttr]
  refine af ?_ (hK _ ?_)<;>clear hK K
  ·first|exact trivial|omega|(simp only [ah] at *; omega)|(simp [ah] at *; omega)|simp_all
  refine qa (qk (qb ?_))
  simp only [Tryd.results39,cy,ak,fl,gp,aj,simprocAttr]
  all_goals (rw [vy (by omega) (by omega) (by omega)]; simp)
 (try simp only [aI] at hC2)
 have hl:m.length=n * n:=by omega
 refine qh (qa (qm (qm ?_)))
 refine ab fun K hK=>aa ae ?_
 simp only [ak,fl,gp,aj,simprocAttr]
 refine af ?_ (hK _ ?_)<;>clear hK K
 ·first|exact trivial|omega|(simp only [ah] at *; omega)|(simp [ah] at *; omega)|simp_all
 refine qa (ql ?_)
 refine aA (ι:=Nat) (fun i=>⟨144,[(1,.ptr 0 0),(2,.ptr 1 0),(33,.p (.list (il m))),(34,.p (.int .i64 m.length)),(35,.p (.int .i64 i))],[.own [.p (.int .i64 n),.p (.list (il m))],.own [.p (.int .i64 0),.p (.int .i64 0)]]⟩) (fun i=>i≤m.length∧∀ j,j < i→bad n m j=false) (fun i=>m.length - i) 0 ⟨Nat.zero_le _,fun j hj=>by omega⟩ [0,1] (by simp only [leq,bh,ak,fl,gp,aj,simprocAttr]<;>trivial) fun i hi=>?_
 obtain ⟨hi1,hi2⟩:=hi
 refine qm ?_
 refine ab fun K hK=>aa ae ?_
 simp only [ak,fl,gp,aj,simprocAttr]
 refine af trivial (hK _ ?_)<;>clear hK K
 refine qa (qm ?_)
 refine an rfl (fun hC3=>?_) (fun hC3=>?_)
 ·(try simp only [aI] at hC3)
  have hlt:i < m.length:=by omega
  refine qh (qa (qm (ql (qm ?_))))
  refine ab fun K hK=>aa ae ?_
  simp only [ak,fl,gp,aj,simprocAttr,aW hlt]
  refine af ?_ (hK _ ?_)<;>clear hK K
  ·first|exact trivial|omega|(simp only [ah] at *; omega)|(simp [ah] at *; omega)|simp_all
  refine qa (qm ?_)
  by_cases g8a:m.getD i 0 < 0
  ·refine ab fun K hK=>aa ae ?_
   simp only [ak,fl,gp,aj,simprocAttr,decide_eq_true g8a]
   refine af trivial (hK _ ?_)<;>clear hK K
   refine qa ?_
   refine an rfl (fun hC4=>?_) (fun hC4=>?_)
   ·refine qm ?_
    refine ab fun K hK=>aa ae ?_
    simp only [ak,fl,gp,aj,simprocAttr]
    refine ao trivial (al (gD 3 i) rfl rfl rfl (by simp only [ay,Nat.reduceLT]) (by repeat (first|exact trivial|constructor)) (aa ae ?_))
    simp only [ak,fl,gp,aj,simprocAttr]
    refine af ?_ (hK _ ?_)<;>clear hK K
    ·first|exact trivial|omega|(simp only [ah] at *; omega)|(simp [ah] at *; omega)|simp_all
    refine qa (qk (qe (qb (qb (qe (qb ?_))))))
    simp only [Tryd.results39,cy,ak,fl,gp,aj,simprocAttr]
    all_goals (rw [lD (by omega) (by omega) hl hlt (decide_eq_true (.inl g8a)) hi2]; simp)
   cases hC4
  refine ab fun K hK=>aa ae ?_
  simp only [ak,fl,gp,aj,simprocAttr,decide_eq_false g8a]
  refine af ?_ (hK _ ?_)<;>clear hK K
  ·first|exact trivial|omega|(simp only [ah] at *; omega)|(simp [ah] at *; omega)|simp_all
  refine qa ?_
  refine an rfl (fun hC4=>?_) (fun hC4=>?_)
  ·(try simp only [aI] at hC4)
   refine qm ?_
   refine ab fun K hK=>aa ae ?_
   simp only [ak,fl,gp,aj,simprocAttr]
   refine ao trivial (al (gD 3 i) rfl rfl rfl (by simp only [ay,Nat.reduceLT]) (by repeat (first|exact trivial|constructor)) (aa ae ?_))
   simp only [ak,fl,gp,aj,simprocAttr]
   refine af ?_ (hK _ ?_)<;>clear hK K
   ·first|exact trivial|omega|(simp only [ah] at *; omega)|(simp [ah] at *; omega)|simp_all
   refine qa (qk (qe (qb (qb (qe (qb ?_))))))
   simp only [Tryd.results39,cy,ak,fl,gp,aj,simprocAttr]
   all_goals (rw [lD (by omega) (by omega) hl hlt (decide_eq_true (.inr hC4)) hi2]; simp)
  (try simp only [aI] at hC4)
  refine qh (qd (qa ?_))
  refine ab fun K hK=>aa ae ?_
  simp only [ak,fl,gp,aj,simprocAttr]
  refine af ?_ (hK _ ?_)<;>clear hK K
  ·first|exact trivial|omega|(simp only [ah] at *; omega)|(simp [ah] at *; omega)|simp_all
  refine qa ?_
  refine ⟨i + 1,[0,1],⟨by omega,fun j hj=>?_⟩,by omega,?_⟩
  ·by_cases hj:j=i
   ·subst hj; exact decide_eq_false (by omega)
   exact hi2 j (by omega)
  simp only [leq,bh,ak,fl,gp,aj,simprocAttr]<;>first|trivial|omega
 (try simp only [aI] at hC3)
 have T:rS n m:=by
  refine ⟨by omega,by omega,hl,fun j hj=>?_⟩
  have:=of_decide_eq_false (hi2 j (by omega))
  omega
 refine qj (qc (qc (qf (qa (qm ?_)))))
 refine ab fun K hK=>aa ae ?_
 simp only [ak,fl,gp,aj,simprocAttr]
 refine af trivial (hK _ ?_)<;>clear hK K
 refine qa (qm (qm ?_))
 refine ab fun K hK=>aa ae ?_
 simp only [ak,fl,gp,aj,simprocAttr]
 refine af ?_ (hK _ ?_)<;>clear hK K
 ·first|exact trivial|omega|(simp only [ah] at *; omega)|(simp [ah] at *; omega)|simp_all
 refine qa (ql ?_)
 refine aA (ι:=Nat) (fun i=>⟨144,[(1,.ptr 0 0),(2,.ptr 1 0),(5,.p (.int .i64 (pF m n i))),(52,.p (.int .i64 n)),(53,.p (.int .i64 i))],[.own [.p (.int .i64 n),.p (.list (il m))],.own [.p (.int .i64 0),.p (.int .i64 0)]]⟩) (fun i=>i≤n) (fun i=>n - i) 0 (Nat.zero_le _) [0,1] (by simp only [leq,bh,ak,fl,gp,aj,simprocAttr]<;>trivial) fun i hi=>?_
 refine qm ?_
 refine ab fun K hK=>aa ae ?_
 simp only [ak,fl,gp,aj,simprocAttr]
 refine af trivial (hK _ ?_)<;>clear hK K
 refine qa (qm ?_)
 refine an rfl (fun hC5=>?_) (fun hC5=>?_)
 ·(try simp only [aI] at hC5)
  have hil:i < n:=by omega
  refine qh (qa (qm (ql (qm ?_))))
  refine ab fun K hK=>aa ae ?_
  simp only [ak,fl,gp,aj,simprocAttr]
  refine af trivial (hK _ ?_)<;>clear hK K
  refine qa (qm ?_)
  refine ab fun K hK=>aa ae ?_
  simp only [ak,fl,gp,aj,simprocAttr]
  refine af trivial (hK _ ?_)<;>clear hK K
  refine qa (qm (qm ?_))
  refine ab fun K hK=>aa ae ?_
  simp only [ak,fl,gp,aj,simprocAttr]
  refine af ?_ (hK _ ?_)<;>clear hK K
  ·first|exact trivial|omega|(simp only [ah] at *; omega)|(simp [ah] at *; omega)|simp_all
  refine qa (ql ?_)
  refine aA (ι:=Nat) (fun b=>⟨144,[(1,.ptr 0 0),(2,.ptr 1 0),(5,.p (.int .i64 (pF m n i))),(6,.p (.int .i64 i)),(7,.p (.bool (decide (∀ c,c < b→op m n i c=c∧op m n c i=c)))),(52,.p (.int .i64 n)),(53,.p (.int .i64 i)),(57,.p (.int .i64 n)),(58,.p (.int .i64 b))],[.own [.p (.int .i64 n),.p (.list (il m))],.own [.p (.int .i64 0),.p (.int .i64 0)]]⟩) (fun b=>b≤n) (fun b=>n - b) 0 (Nat.zero_le _) [0,1] (by simp only [leq,bh,ak,fl,gp,aj,simprocAttr]<;>simp) fun b hb=>?_
  refine qm ?_
  refine ab fun K hK=>aa ae ?_
  simp only [ak,fl,gp,aj,simprocAttr]
  refine af trivial (hK _ ?_)<;>clear hK K
  refine qa (qm ?_)
  refine an rfl (fun hC6=>?_) (fun hC6=>?_)
  ·(try simp only [aI] at hC6)
   have hbl:b < n:=by omega
   refine qh (qa (qm (ql (qm ?_))))
   refine ab fun K hK=>aa ae ?_
   simp only [ak,fl,gp,aj,simprocAttr]
   refine af trivial (hK _ ?_)<;>clear hK K
   refine qa ?_
   by_cases g19a:∀ c,c < b→op m n i c=c∧op m n c i=c
   ·by_cases g19b:((op m n i b:Nat):Int)=(b:Nat)
    ·refine ab fun K hK=>aa ae ?_
     simp only [ak,fl,gp,aj,simprocAttr,decide_eq_true g19a,decide_eq_true g19b]
     refine ao trivial (al (nj T hil hbl) rfl rfl rfl (by simp only [ay,Nat.reduceLT]) (by repeat (first|exact trivial|constructor)) (aa ae ?_))
     simp only [ak,fl,gp,aj,simprocAttr,decide_eq_true g19a,decide_eq_true g19b]
     refine ao trivial (al (nj T hbl hil) rfl rfl rfl (by simp only [ay,Nat.reduceLT]) (by repeat (first|exact trivial|constructor)) (aa ae ?_))
     simp only [ak,fl,gp,aj,simprocAttr,decide_eq_true g19a,decide_eq_true g19b]
     refine af ?_ (hK _ ?_)<;>clear hK K
     ·first|exact trivial|omega|(simp only [ah] at *; omega)|(simp [ah] at *; omega)|simp_all
     refine qd (qa ?_)
     refine ab fun K hK=>aa ae ?_
     simp only [ak,fl,gp,aj,simprocAttr]
     refine af ?_ (hK _ ?_)<;>clear hK K
     ·first|exact trivial|omega|(simp only [ah] at *; omega)|(simp [ah] at *; omega)|simp_all
     refine qa ?_
     refine ⟨b + 1,[0,1],by omega,by omega,?_⟩
     have hd:decide (∀ c,c < b + 1→op m n i c=c∧op m n c i=c)=decide (((op m n b i:Nat):Int)=(b:Nat)):=by
      apply decide_eq_decide.2
      constructor
      ·intro h; have:=h b (by omega); omega
      intro h c hc
      by_cases hcb:c=b
      ·subst hcb; omega
      exact g19a c (by omega)
     rw [hd]
     simp only [leq,bh,ak,fl,gp,aj,simprocAttr]<;>first|trivial|omega
    refine ab fun K hK=>aa ae ?_
    simp only [ak,fl,gp,aj,simprocAttr,decide_eq_true g19a,decide_eq_false g19b]
    refine ao trivial (al (nj T hil hbl) rfl rfl rfl (by simp only [ay,Nat.reduceLT]) (by repeat (first|exact trivial|constructor)) (aa ae ?_))
    simp only [ak,fl,gp,aj,simprocAttr,decide_eq_true g19a,decide_eq_false g19b]
    refine af ?_ (hK _ ?_)<;>clear hK K
    ·first|exact trivial|omega|(simp only [ah] at *; omega)|(simp [ah] at *; omega)|simp_all
    refine qd (qa ?_)
    refine ab fun K hK=>aa ae ?_
    simp only [ak,fl,gp,aj,simprocAttr]
    refine af ?_ (hK _ ?_)<;>clear hK K
    ·first|exact trivial|omega|(simp only [ah] at *; omega)|(simp [ah] at *; omega)|simp_all
    refine qa ?_
    refine ⟨b + 1,[0,1],by omega,by omega,?_⟩
    rw [nD (P:=fun c=>op m n i c=c∧op m n c i=c) (b:=b) fun h=>by omega]
    simp only [leq,bh,ak,fl,gp,aj,simprocAttr]<;>first|trivial|omega
   refine ab fun K hK=>aa ae ?_
   simp only [ak,fl,gp,aj,simprocAttr,decide_eq_false g19a]
   refine af trivial (hK _ ?_)<;>clear hK K
   refine qd (qa ?_)
   refine ab fun K hK=>aa ae ?_
   simp only [ak,fl,gp,aj,simprocAttr]
   refine af ?_ (hK _ ?_)<;>clear hK K
   ·first|exact trivial|omega|(simp only [ah] at *; omega)|(simp [ah] at *; omega)|simp_all
   refine qa ?_
   refine ⟨b + 1,[0,1],by omega,by omega,?_⟩
   rw [show decide (∀ c,c < b + 1→op m n i c=c∧op m n c i=c)=false from decide_eq_false fun h=>g19a fun c hc=>h c (by omega)]
   simp only [leq,bh,ak,fl,gp,aj,simprocAttr]<;>first|trivial|omega
  (try simp only [aI] at hC6)
  have hbn:b=n:=by omega
  subst hbn
  refine qj (qc (qc (qf (qa (qm ?_)))))
  refine ab fun K hK=>aa ae ?_
  simp only [ak,fl,gp,aj,simprocAttr]
  refine af trivial (hK _ ?_)<;>clear hK K
  refine qa ?_
  refine an rfl (fun hone=>?_) (fun hone=>?_)
  ·(try simp only [aI] at hone)
   refine ab fun K hK=>aa ae ?_
   simp only [ak,fl,gp,aj,simprocAttr]
   refine af trivial (hK _ ?_)<;>clear hK K
   refine qd (qa ?_)
   refine ab fun K hK=>aa ae ?_
   simp only [ak,fl,gp,aj,simprocAttr]
   refine af ?_ (hK _ ?_)<;>clear hK K
   ·first|exact trivial|omega|(simp only [ah] at *; omega)|(simp [ah] at *; omega)|simp_all
   refine qa ?_
   refine ⟨i + 1,[0,1],by omega,by omega,?_⟩
   simp only [pF]
   rw [if_pos (show rP m b i from hone)]
   simp only [leq,bh,ak,fl,gp,aj,simprocAttr]<;>first|trivial|omega
  (try simp only [aI] at hone)
  refine qh (qd (qa ?_))
  refine ab fun K hK=>aa ae ?_
  simp only [ak,fl,gp,aj,simprocAttr]
  refine af ?_ (hK _ ?_)<;>clear hK K
  ·first|exact trivial|omega|(simp only [ah] at *; omega)|(simp [ah] at *; omega)|simp_all
  refine qa ?_
  refine ⟨i + 1,[0,1],by omega,by omega,?_⟩
  simp only [pF]
  rw [if_neg (show ¬ rP m b i from hone)]
  simp only [leq,bh,ak,fl,gp,aj,simprocAttr]<;>first|trivial|omega
 (try simp only [aI] at hC5)
 have hin:i=n:=by omega
 subst hin
 rw [Bp]
 refine qj (qc (qc (qf (qa (qm (qm ?_))))))
 refine ab fun K hK=>aa ae ?_
 simp only [ak,fl,gp,aj,simprocAttr]
 refine af trivial (hK _ ?_)<;>clear hK K
 refine qa ?_
 refine an rfl (fun hC8=>?_) (fun hC8=>?_)
 ·(try simp only [aI] at hC8)
  refine qm ?_
  refine ab fun K hK=>aa ae ?_
  simp only [ak,fl,gp,aj,simprocAttr]
  refine ao trivial (al (gD 6 0) rfl rfl rfl (by simp only [ay,Nat.reduceLT]) (by repeat (first|exact trivial|constructor)) (aa ae ?_))
  simp only [ak,fl,gp,aj,simprocAttr]
  refine af ?_ (hK _ ?_)<;>clear hK K
  ·first|exact trivial|omega|(simp only [ah] at *; omega)|(simp [ah] at *; omega)|simp_all
  refine qa (qk (qb ?_))
  simp only [Tryd.results39,cy,ak,fl,gp,aj,simprocAttr]
  all_goals (rw [ij T,Dm hC8]; simp)
 (try simp only [aI] at hC8)
 refine qh (qa (qm (qm ?_)))
 refine ab fun K hK=>aa ae ?_
 simp only [ak,fl,gp,aj,simprocAttr]
 refine af ?_ (hK _ ?_)<;>clear hK K
 ·first|exact trivial|omega|(simp only [ah] at *; omega)|(simp [ah] at *; omega)|simp_all
 refine qa (ql ?_)
 refine aA (ι:=Nat) (fun a=>⟨144,[(1,.ptr 0 0),(2,.ptr 1 0),(5,.p (.int .i64 (eI m i))),(86,.p (.int .i64 i)),(87,.p (.int .i64 a))],[.own [.p (.int .i64 i),.p (.list (il m))],.own [.p (.int .i64 0),.p (.int .i64 0)]]⟩) (fun a=>a≤i∧∀ j,j < a→tV m i j) (fun a=>i - a) 0 ⟨Nat.zero_le _,fun j hj=>by omega⟩ [0,1] (by simp only [leq,bh,ak,fl,gp,aj,simprocAttr]<;>trivial) fun a ha=>?_
 obtain ⟨ha1,ha2⟩:=ha
 refine qm ?_
 refine ab fun K hK=>aa ae ?_
 simp only [ak,fl,gp,aj,simprocAttr]
 refine af trivial (hK _ ?_)<;>clear hK K
 refine qa (qm ?_)
 refine an rfl (fun hC9=>?_) (fun hC9=>?_)
 ·(try simp only [aI] at hC9)
  have hal:a < i:=by omega
  refine qh (qa (qm (ql (qm ?_))))
  refine ab fun K hK=>aa ae ?_
  simp only [ak,fl,gp,aj,simprocAttr]
  refine af trivial (hK _ ?_)<;>clear hK K
  refine qa (qm ?_)
  refine ab fun K hK=>aa ae ?_
  simp only [ak,fl,gp,aj,simprocAttr]
  refine af ?_ (hK _ ?_)<;>clear hK K
  ·first|exact trivial|omega|(simp only [ah] at *; omega)|(simp [ah] at *; omega)|simp_all
  refine qa (ql ?_)
  refine aA (ι:=Nat) (fun b=>⟨144,[(1,.ptr 0 0),(2,.ptr 1 0),(5,.p (.int .i64 (eI m i))),(9,.p (.int .i64 a)),(86,.p (.int .i64 i)),(87,.p (.int .i64 a)),(91,.p (.int .i64 i)),(92,.p (.int .i64 b))],[.own [.p (.int .i64 i),.p (.list (il m))],.own [.p (.int .i64 0),.p (.int .i64 0)]]⟩) (fun b=>b≤i∧∀ j,j < b→∀ c,c < i→op m i (op m i a j) c=op m i a (op m i j c)) (fun b=>i - b) 0 ⟨Nat.zero_le _,fun j hj=>by omega⟩ [0,1] (by simp only [leq,bh,ak,fl,gp,aj,simprocAttr]<;>trivial) fun b hb=>?_
  obtain ⟨hb1,hb2⟩:=hb
  refine qm ?_
  refine ab fun K hK=>aa ae ?_
  simp only [ak,fl,gp,aj,simprocAttr]
  refine af trivial (hK _ ?_)<;>clear hK K
  refine qa (qm ?_)
  refine an rfl (fun hC10=>?_) (fun hC10=>?_)
  ·(try simp only [aI] at hC10)
   have hbl:b < i:=by omega
   refine qh (qa (qm (ql (qm ?_))))
   refine ab fun K hK=>aa ae ?_
   simp only [ak,fl,gp,aj,simprocAttr]
   refine af trivial (hK _ ?_)<;>clear hK K
   refine qa (qm ?_)
   refine ab fun K hK=>aa ae ?_
   simp only [ak,fl,gp,aj,simprocAttr]
   refine af ?_ (hK _ ?_)<;>clear hK K
   ·first|exact trivial|omega|(simp only [ah] at *; omega)|(simp [ah] at *; omega)|simp_all
   refine qa (ql ?_)
   refine aA (ι:=Nat) (fun c=>⟨144,[(1,.ptr 0 0),(2,.ptr 1 0),(5,.p (.int .i64 (eI m i))),(9,.p (.int .i64 a)),(10,.p (.int .i64 b)),(86,.p (.int .i64 i)),(87,.p (.int .i64 a)),(91,.p (.int .i64 i)),(92,.p (.int .i64 b)),(96,.p (.int .i64 i)),(97,.p (.int .i64 c))],[.own [.p (.int .i64 i),.p (.list (il m))],.own [.p (.int .i64 0),.p (.int .i64 0)]]⟩) (fun c=>c≤i∧∀ j,j < c→op m i (op m i a b) j=op m i a (op m i b j)) (fun c=>i - c) 0 ⟨Nat.zero_le _,fun j hj=>by omega⟩ [0,1] (by simp only [leq,bh,ak,fl,gp,aj,simprocAttr]<;>trivial) fun c hc=>?_
   obtain ⟨hc1,hc2⟩:=hc
   refine qm ?_
   refine ab fun K hK=>aa ae ?_
   simp only [ak,fl,gp,aj,simprocAttr]
   refine af trivial (hK _ ?_)<;>clear hK K
   refine qa (qm ?_)
   refine an rfl (fun hC11=>?_) (fun hC11=>?_)
   ·(try simp only [aI] at hC11)
    have hcl:c < i:=by omega
    refine qh (qa (qm (ql (qm ?_))))
    refine ab fun K hK=>aa ae ?_
    simp only [ak,fl,gp,aj,simprocAttr]
    refine af trivial (hK _ ?_)<;>clear hK K
    refine qa (qm ?_)
    refine bf mixed (by kernel_rfl) fun K hK=>aa ae ?_
    simp only [ak,fl,gp,aj,simprocAttr]
    refine ao trivial (al (nj T hal hbl) rfl rfl rfl (by simp only [ay,Nat.reduceLT]) (by repeat (first|exact trivial|constructor)) (aa ae ?_))
    simp only [ak,fl,gp,aj,simprocAttr]
    refine ao trivial (al (nj T (T.lt hal hbl) hcl) rfl rfl rfl (by simp only [ay,Nat.reduceLT]) (by repeat (first|exact trivial|constructor)) (aa ae ?_))
    simp only [ak,fl,gp,aj,simprocAttr]
    refine ao trivial (al (nj T hbl hcl) rfl rfl rfl (by simp only [ay,Nat.reduceLT]) (by repeat (first|exact trivial|constructor)) (aa ae ?_))
    simp only [ak,fl,gp,aj,simprocAttr]
    refine ao trivial (al (nj T hal (T.lt hbl hcl)) rfl rfl rfl (by simp only [ay,Nat.reduceLT]) (by repeat (first|exact trivial|constructor)) (aa ae ?_))
    simp only [ak,fl,gp,aj,simprocAttr]
    refine af ?_ (hK _ ?_)<;>clear hK K
    ·first|exact trivial|omega|(simp only [ah] at *; omega)|(simp [ah] at *; omega)|simp_all
    refine qa ?_
    refine an rfl (fun hC12=>?_) (fun hC12=>?_)
    ·(try simp only [aI] at hC12)
     refine qm ?_
     refine ab fun K hK=>aa ae ?_
     simp only [ak,fl,gp,aj,simprocAttr]
     refine ao trivial (al (gD 7 a) rfl rfl rfl (by simp only [ay,Nat.reduceLT]) (by repeat (first|exact trivial|constructor)) (aa ae ?_))
     simp only [ak,fl,gp,aj,simprocAttr]
     refine af ?_ (hK _ ?_)<;>clear hK K
     ·first|exact trivial|omega|(simp only [ah] at *; omega)|(simp [ah] at *; omega)|simp_all
     refine qa (qk (qe (qb (qb (qe (qe (qb (qb (qe (qe (qb (qb (qe (qb ?_))))))))))))))
     simp only [Tryd.results39,cy,ak,fl,gp,aj,simprocAttr]
     all_goals (rw [ij T,Da hC8 hal (fun h=>hC12 (by rw [h b hbl c hcl])) ha2]; simp)
    (try simp only [aI] at hC12)
    refine qh (qd (qa ?_))
    refine ab fun K hK=>aa ae ?_
    simp only [ak,fl,gp,aj,simprocAttr]
    refine af ?_ (hK _ ?_)<;>clear hK K
    ·first|exact trivial|omega|(simp only [ah] at *; omega)|(simp [ah] at *; omega)|simp_all
    refine qa ?_
    refine ⟨c + 1,[0,1],⟨by omega,fun j hj=>?_⟩,by omega,?_⟩
    ·by_cases hj:j=c
     ·subst hj; omega
     exact hc2 j (by omega)
    simp only [leq,bh,ak,fl,gp,aj,simprocAttr]<;>first|trivial|omega
   (try simp only [aI] at hC11)
   refine qj (qc (qc (qf (qd (qa ?_)))))
   refine ab fun K hK=>aa ae ?_
   simp only [ak,fl,gp,aj,simprocAttr]
   refine af ?_ (hK _ ?_)<;>clear hK K
   ·first|exact trivial|omega|(simp only [ah] at *; omega)|(simp [ah] at *; omega)|simp_all
   refine qa ?_
   refine ⟨b + 1,[0,1],⟨by omega,fun j hj=>?_⟩,by omega,?_⟩
   ·by_cases hj:j=b
    ·subst hj; exact fun c' hc'=>hc2 c' (by omega)
    exact hb2 j (by omega)
   simp only [leq,bh,ak,fl,gp,aj,simprocAttr]<;>first|trivial|omega
  (try simp only [aI] at hC10)
  refine qj (qc (qc (qf (qd (qa ?_)))))
  refine ab fun K hK=>aa ae ?_
  simp only [ak,fl,gp,aj,simprocAttr]
  refine af ?_ (hK _ ?_)<;>clear hK K
  ·first|exact trivial|omega|(simp only [ah] at *; omega)|(simp [ah] at *; omega)|simp_all
  refine qa ?_
  refine ⟨a + 1,[0,1],⟨by omega,fun j hj=>?_⟩,by omega,?_⟩
  ·by_cases hj:j=a
   ·subst hj; exact fun c' hc'=>hb2 c' (by omega)
   exact ha2 j (by omega)
  simp only [leq,bh,ak,fl,gp,aj,simprocAttr]<;>first|trivial|omega
 (try simp only [aI] at hC9)
 have hs:∀ a,a < i→tV m i a:=fun j hj=>ha2 j (by omega)
 refine qj (qc (qc (qf (qa (qm (qm ?_))))))
 refine ab fun K hK=>aa ae ?_
 simp only [ak,fl,gp,aj,simprocAttr]
 refine af ?_ (hK _ ?_)<;>clear hK K
 ·first|exact trivial|omega|(simp only [ah] at *; omega)|(simp [ah] at *; omega)|simp_all
 refine qa (ql ?_)
 refine aA (ι:=Nat) (fun a=>⟨144,[(1,.ptr 0 0),(2,.ptr 1 0),(5,.p (.int .i64 (eI m i))),(121,.p (.int .i64 i)),(122,.p (.int .i64 a))],[.own [.p (.int .i64 i),.p (.list (il m))],.own [.p (.int .i64 0),.p (.int .i64 0)]]⟩) (fun a=>a≤i∧∀ j,j < a→¬ iI m i j < 0) (fun a=>i - a) 0 ⟨Nat.zero_le _,fun j hj=>by omega⟩ [0,1] (by simp only [leq,bh,ak,fl,gp,aj,simprocAttr]<;>trivial) fun k hk=>?_
 obtain ⟨hk1,hk2⟩:=hk
 refine qm ?_
 refine ab fun K hK=>aa ae ?_
 simp only [ak,fl,gp,aj,simprocAttr]
 refine af trivial (hK _ ?_)<;>clear hK K
 refine qa (qm ?_)
 refine an rfl (fun hC13=>?_) (fun hC13=>?_)
 ·(try simp only [aI] at hC13)
  have hkl:k < i:=by omega
  have ht:=yL T hC8 hs hkl
  have hr1:=nL T hkl
  have hr2:(k + 1) * i≤i * i:=Nat.mul_le_mul_right _ hkl
  have hr3:k * i≤(k + 1) * i:=Nat.mul_le_mul_right _ (by omega)
  have hr4:(k:Int) * (i:Int)=((k * i:Nat):Int):=(Int.natCast_mul k i).symm
  have hr5:((k:Int) + 1) * (i:Int)=(((k + 1) * i:Nat):Int):=by rw [Int.natCast_mul]; rfl
  refine qh (qa (qm (ql (qm ?_))))
  refine ab fun K hK=>aa ae ?_
  simp only [ak,fl,gp,aj,simprocAttr]
  refine af trivial (hK _ ?_)<;>clear hK K
  refine qa (qm ?_)
  refine ab fun K hK=>aa ae ?_
  simp only [ak,fl,gp,aj,simprocAttr,nY,oY,oQ]
  refine ao ?_ (al (uG (row m i k) (eI m i) (by omega)) rfl rfl rfl (by simp only [ay,Nat.reduceLT]) (by repeat (first|exact trivial|constructor)) (aa ae ?_))
  ·rw [hr4,hr5]; simp only [ah]; omega
  simp only [ak,fl,gp,aj,simprocAttr,nY,oY,oQ]
  refine af ?_ (hK _ ?_)<;>clear hK K
  ·first|exact trivial|omega|(simp only [ah] at *; omega)|(simp [ah] at *; omega)|simp_all
  refine qa ?_
  refine an rfl (fun hC14=>?_) (fun hC14=>?_)
  ·(try simp only [aI] at hC14)
   refine qm ?_
   refine ab fun K hK=>aa ae ?_
   simp only [ak,fl,gp,aj,simprocAttr]
   refine ao trivial (al (gD 4 k) rfl rfl rfl (by simp only [ay,Nat.reduceLT]) (by repeat (first|exact trivial|constructor)) (aa ae ?_))
   simp only [ak,fl,gp,aj,simprocAttr]
   refine af ?_ (hK _ ?_)<;>clear hK K
   ·first|exact trivial|omega|(simp only [ah] at *; omega)|(simp [ah] at *; omega)|simp_all
   refine qa (qk (qe (qb (qb (qe (qb ?_))))))
   simp only [Tryd.results39,cy,ak,fl,gp,aj,simprocAttr]
   all_goals (rw [ij T,DE hC8 hs hkl (Classical.not_not.1 fun h=>hC14 (ht.2 h)) hk2]; simp)
  (try simp only [aI] at hC14)
  refine qh (qd (qa ?_))
  refine ab fun K hK=>aa ae ?_
  simp only [ak,fl,gp,aj,simprocAttr]
  refine af ?_ (hK _ ?_)<;>clear hK K
  ·first|exact trivial|omega|(simp only [ah] at *; omega)|(simp [ah] at *; omega)|simp_all
  refine qa ?_
  refine ⟨k + 1,[0,1],⟨by omega,fun j hj=>?_⟩,by omega,?_⟩
  ·by_cases hj:j=k
   ·subst hj; exact ht.1 hC14
   exact hk2 j (by omega)
  simp only [leq,bh,ak,fl,gp,aj,simprocAttr]<;>first|trivial|omega
 (try simp only [aI] at hC13)
 refine qj (qc (qc (qf (qa (qm ?_)))))
 refine ab fun K hK=>aa ae ?_
 simp only [ak,fl,gp,aj,simprocAttr]
 refine af ?_ (hK _ ?_)<;>clear hK K
 ·first|exact trivial|omega|(simp only [ah] at *; omega)|(simp [ah] at *; omega)|simp_all
 refine qa (qk ?_)
 simp only [Tryd.results39,cy,ak,fl,gp,aj,simprocAttr]
 all_goals (rw [ij T,Ag hC8 hs (fun j hj=>hk2 j (by omega))]; simp)
end Go.Proofs.YtjlmpmidchddjaaDoor
namespace Go.Pv
open Go.RowKit
def dD:Nat→Nat→aw
 | _,0=>[]
 | k,n + 1=>.dx k k :: dD (k + 1) n
theorem oF:∀ (n k j:Nat) (b:aL),(dD k n)[j]? = some b→j < n∧b = .dx (k + j) (k + j)
 | 0,k,j,b,h=>by simp [dD] at h
 | n + 1,k,0,b,h=>by simp [dD] at h; exact ⟨by omega,h.symm⟩
 | n + 1,k,j + 1,b,h=>by
  have:=oF n (k + 1) j b (by simpa [dD] using h)
  refine ⟨by omega,?_⟩
  rw [this.2,show k + 1 + j=k + (j + 1) by omega]
theorem wS:∀ (n k j:Nat),j < n→(dD k n)[j]? = some (.dx (k + j) (k + j))
 | n + 1,k,0,_=>rfl
 | n + 1,k,j + 1,h=>by
  rw [show dD k (n + 1) = .dx k k :: dD (k + 1) n from rfl,List.getElem?_cons_succ,wS n (k + 1) j (by omega),show k + 1 + j=k + (j + 1) by omega]
def l9:Nat→List AV→List (Nat × AV)
 | _,[]=>[]
 | k,a :: r=>(k,a) :: l9 (k + 1) r
theorem rh:∀ (l:List AV) (k t:Nat),lk (l9 k l) t=if k≤t then l.getD (t - k) .dead else .dead
 | [],k,t=>by simp [l9,lk]
 | a :: r,k,t=>by
  simp only [l9,lk]
  by_cases h:k=t
  ·subst h; simp
  rw [show (k == t)=false by simpa using h]
  simp only [cond_false]
  rw [rh r (k + 1) t]
  by_cases hk:k≤t
  ·rw [if_pos (by omega),if_pos hk,show t - k=(t - (k + 1)) + 1 by omega]; rfl
  rw [if_neg (by omega),if_neg hk]
theorem wB {H X:aw} {k:Nat} {b:aL} (h:(H++X)[k]? = some b):(k < H.length∧H[k]? = some b)∨X[k - H.length]? = some b:=by
 by_cases hk:k < H.length
 ·exact .inl ⟨hk,by rwa [List.getElem?_append_left hk] at h⟩
 exact .inr (by rwa [List.getElem?_append_right (by omega)] at h)
section
variable {P:Program} {T:TypeId→Option TI} {C:Ctx} {m:Map} {s:St} {tmps:Array Value} {w:World}
theorem Rel.EE (R:Rel C m s tmps w) {n:Nat} (hn:n≤s.H.length) (ha:∀ i,i < n→m i=C.dx i):Rel C m { s with H:=s.H++dD 0 n } tmps w:=by
 have gen:∀ (k:Nat) (b:aL),(∀ i j,b ≠ .dx i j)→(s.H++dD 0 n)[k]? = some b→k < s.H.length∧s.H[k]? = some b:=by
  intro k b hb h
  rcases wB h with h | h
  ·exact h
  exact absurd (oF _ _ _ _ h).2 (hb _ _)
 have own:∀ (k:Nat) (c:List AV),(s.H++dD 0 n)[k]? = some (.own c)→k < s.H.length∧s.H[k]? = some (.own c):=fun k c h=>gen k _ (fun _ _ h=>by cases h) h
 have mps:∀ (k:Nat) (kk:IntKind) (d:Int→Bool) (v:Int→PV),(s.H++dD 0 n)[k]? = some (aL.mp kk d v)→k < s.H.length∧s.H[k]? = some (aL.mp kk d v):=fun k _ _ _ h=>gen k _ (fun _ _ h=>by cases h) h
 have ho:∀ b,OK C m s.H w b→OK C m (s.H++dD 0 n) w b:=fun b h=>⟨h.1,h.2.1,fun k c l hk hl=>h.2.2 k c l (own k c hk).2 hl⟩
 have hlen:s.H.length≤(s.H++dD 0 n).length:=by simp
 have rd:∀ p v,Reads (OK C m s.H w) w p v→Reads (OK C m (s.H++dD 0 n) w) w p v:=fun p v h=>h.mono ho
 refine ⟨R.laid.ext rd,R.below,R.base,R.size,fun k k' c c' l l' h1 h2=>R.inj k k' c c' l l' (own k c h1).2 (own k' c' h2).2,fun k c h=>(R.blk k c (own k c h).2).ext rd hlen (fun _ _=>rfl) rfl fun _ _=>rfl,
  fun k c h=>(R.fro k c (gen k _ (fun _ _ h=>by cases h) h).2).ext ho (fun _ _=>rfl) rfl,fun t=>(R.slot t).ext rd hlen fun _ _=>rfl,fun k kk d v h=>(R.mp.1 k kk d v (mps k kk d v h).2).ext ho (fun _ _=>rfl) rfl fun _ _=>rfl,
  fun k k' kk d v kk' d' v' l l' h1 h2=>R.mp.2.1 k k' kk d v kk' d' v' l l' (mps _ _ _ _ h1).2 (mps _ _ _ _ h2).2,fun k i j h=>?_,R.mp.2.2.2.ext id (fun k r h=>⟨(gen k _ (fun _ _ h=>by cases h) h).2,rfl⟩) (fun _ _ _ _ _ _ h=>h) (fun _ _ _ _ _ _=>rfl) fun _ _ _ _ _ h=>h⟩
 rcases wB h with h | h
 ·obtain ⟨a1,a2⟩:=R.mp.2.2.1 k i j h.2
  exact ⟨by simp; omega,a2⟩
 obtain ⟨a1,a2⟩:=oF _ _ _ _ h
 cases a2
 refine ⟨by simp; omega,?_⟩
 rw [ha _ (by omega)]
def FR (P:Program) (f:FuncId) (args:List AV) (H0:aw) (r:AV) (H1:aw):Prop:=
 H3 P f∧∀ (C:Ctx) (m:Map) (w:World) (vals:Array Value),Rel C m ⟨args.length,l9 0 args,H0++dD 0 H0.length⟩ vals w →
  Calls P f vals w fun e w'=>∃ v m',e = .returned v∧Rel C m' ⟨1,[(0,r)],H1++dD 0 H0.length⟩ #[v] w'
theorem FH (hT:∀ t ti,T t=some ti→bq P t=some ti) {f:FuncId} {fn:Func} {c:Code} {args:List AV} {av:AV} {H0 H1:aw} (hf:P.funcs[f]? = some fn) (hb:fn.body=some c) (hnm:(fn.name == "runtime.NumGoroutine")=false) (hn:args.length≤fn.ntmps)
  (h:Holds P c (o8 T fn.results.toList av (H1++dD 0 H0.length)) ⟨fn.ntmps,l9 0 args,H0++dD 0 H0.length⟩):FR P f args H0 av H1:=by
 refine ⟨⟨fn,hf,hnm,by rw [hb]; rfl⟩,fun C m w vals R0=>calls_of_wp hf hb (o7.1 ?_)⟩
 have hsz:vals.size=args.length:=R0.size
 have R:Rel C m ⟨fn.ntmps,l9 0 args,H0++dD 0 H0.length⟩ (vals++Array.replicate (fn.ntmps - vals.size) undef) w:=by
  refine ⟨R0.laid,R0.below,R0.base,by simp; omega,R0.inj,R0.blk,R0.fro,fun t=>?_,R0.mp⟩
  have hs:=R0.slot t
  by_cases ht:t < vals.size
  ·rw [Array.getD_eq_getD_getElem?,Array.getElem?_append_left ht,← Array.getD_eq_getD_getElem?]
   exact hs
  have e:lk (l9 0 args) t = .dead:=by
   rw [rh,if_pos (Nat.zero_le _),List.getD_eq_getElem?_getD,List.getElem?_eq_none (by omega)]; rfl
  unfold St.get
  simp only
  rw [e]
  exact .dead _
 refine fY (h none [] _ _ { tmps:=vals++Array.replicate (fn.ntmps - vals.size) undef,defers:=[] } w R rfl) fun e a' w' ⟨s',m',h1,h2,h3⟩=>?_
 have fini:o6 T fn.results.toList av (H1++dD 0 H0.length) s'→a'.defers=[]∧∃ v,(results fn a'.tmps).run P w' = .ok v w'∧∃ v_1 m'',Ending.returned v = .returned v_1∧Rel C m'' ⟨1,[(0,av)],H1++dD 0 H0.length⟩ #[v_1] w':=by
  intro he
  unfold o6 at he
  split at he
  ·rename_i p l hl
   obtain ⟨hp,π,hav,ew,hle⟩:=he
   obtain ⟨vs,e1,e2,e3⟩:=kX hT h2 fn.results.toList hl hp
   have hv:=lU (w:=w') e2 e3
   have R':=h2.weaken hle
   rw [hav] at hv
   have hlen:(H1++dD 0 H0.length).length=π.length:=(hle.2.2.1.get).1.symm
   have ho:=OK.weaken (C:=C) (m:=m') (w:=w') hle.2.2.1
   have hv2:=hv.tg (fun p v h=>h.mono ho) hlen ew
   refine ⟨h3,(if h:vs.toArray.size=1 then vs.toArray[0] else .tuple vs.toArray),?_,_,_,rfl,R'.laid,R'.below,R'.base,rfl,R'.inj,R'.blk,R'.fro,fun t=>?_,R'.mp⟩
   ·rw [kA,Array.mapM_eq_mapM_toList]
    simp only [Sem.run_bind,Sem.run_map]
    rw [e1]
    simp only [Result.andThen_ok]
    rfl
   cases t with
   | zero=>exact hv2
   | succ t=>exact .dead _
  exact he.elim
 cases e with
 | normal=>exact fini h1
 | ret=>exact fini h1
 | _=>exact h1.elim
theorem aH.sig {rd rd' : PV→Value→Prop} {m m2:Map} {H H2:aw} {σ:List Nat} (h1:∀ p v,rd p v→rd' p v) (hs:∀ k,k < σ.length→σ.getD k 0 < H2.length∧m2 (σ.getD k 0)=m k) {x:AV} {v:Value} (h:aH rd m H x v)
  (hx:bb σ.length x=true):aH rd' m2 H2 (Go.Pv.bl σ x) v:=by
 have one:∀ {x:AV} {v:Value},aH rd m H x v→br σ.length x=true→aH rd' m2 H2 (bu σ x) v:=by
  intro x v h ew
  cases h with
  | dead v=>exact .dead v
  | p pv v h=>exact .p pv v (h1 _ _ h)
  | sl k lo len v hk h =>
   obtain ⟨g1,g2⟩:=hs k (by simpa [br] using ew)
   refine .sl _ lo len v g1 ?_
   unfold Ck at *
   rw [g2]; exact h
  | ptr k i v hk h =>
   obtain ⟨g1,g2⟩:=hs k (by simpa [br] using ew)
   refine .ptr _ i v g1 ?_
   unfold wE at *
   rw [g2]; exact h
  | agg l vs hl hr=>simp [br] at ew
  | tup l vs hl hr=>simp [br] at ew
  | cl f l vs hl hr=>simp [br] at ew
  | lJ r=>exact .lJ r
  | sls k lo len sz v hk h =>
   obtain ⟨g1,g2⟩:=hs k (by simpa [br] using ew)
   refine .sls _ lo len sz v g1 ?_
   unfold wo at *
   rw [g2]; exact h
  | mptr k v hk h =>
   obtain ⟨g1,g2⟩:=hs k (by simpa [br] using ew)
   refine .mptr _ v g1 ?_
   unfold qR at *
   rw [g2]; exact h
  | yv k l vs v hk h hl hr=>simp [br] at ew
 cases x with
 | agg l =>
  cases h with
  | agg _ vs hl hr =>
   refine .agg _ vs (by simpa using hl) fun c hc=>?_
   rw [List.length_map] at hc
   rw [List.getElem_map]
   exact one (hr c hc) ((List.all_eq_true.1 hx) _ (List.getElem_mem hc))
 | tup l =>
  cases h with
  | tup _ vs hl hr =>
   refine .tup _ vs (by simpa using hl) fun c hc=>?_
   rw [List.length_map] at hc
   rw [List.getElem_map]
   exact one (hr c hc) ((List.all_eq_true.1 hx) _ (List.getElem_mem hc))
 | cl f l =>
  cases h with
  | cl _ _ vs hl hr =>
   refine .cl _ _ vs (by simpa using hl) fun c hc=>?_
   rw [List.length_map] at hc
   rw [List.getElem_map]
   exact one (hr c hc) ((List.all_eq_true.1 hx) _ (List.getElem_mem hc))
 | yv k l vs =>
  simp only [bb,Bool.and_eq_true,decide_eq_true_eq] at hx
  cases h with
  | yv _ _ _ _ hk h hl hr =>
   obtain ⟨g1,g2⟩:=hs k hx.1
   refine .yv _ _ vs v g1 ?_ (by simpa using hl) fun c hc=>?_
   ·unfold CM at *
    rw [g2]; exact h
   rw [List.length_map] at hc
   rw [List.getElem_map]
   exact one (hr c hc) ((List.all_eq_true.1 hx.2) _ (List.getElem_mem hc))
 | dead=>exact one h hx
 | p pv=>exact one h hx
 | sl k lo len=>exact one h hx
 | ptr k i=>exact one h hx
 | mptr k=>exact one h hx
 | lJ r=>exact one h hx
 | sls k lo len sz=>exact one h hx
def gy:aw→List Nat→aw→aw
 | H,[],bs=>H++bs
 | H,_ :: _,[]=>H
 | H,k :: ks,b :: bs=>gy (aE H k b) ks bs
theorem tw:∀ (ks:List Nat) (bs H:aw) (k:Nat) (b:aL),(∀ k∈ks,k < H.length)→ks.length≤bs.length→(gy H ks bs)[k]? = some b →
  (∃ j:Nat,bs[j]? = some b∧(ks++List.range' H.length (bs.length - ks.length))[j]? = some k)∨(k < H.length∧k ∉ ks∧H[k]? = some b)
 | [],bs,H,k,b,_,_,h=>by
  simp only [gy] at h
  by_cases hk:k < H.length
  ·exact .inr ⟨hk,by simp,by rwa [List.getElem?_append_left hk] at h⟩
  rw [List.getElem?_append_right (by omega)] at h
  refine .inl ⟨k - H.length,h,?_⟩
  have:=(List.getElem?_eq_some_iff.1 h).1
  simp only [List.nil_append,List.length_nil,Nat.sub_zero]
  rw [List.getElem?_range' this]
  simp; omega
 | k0 :: ks,[],H,k,b,_,hl,_=>by simp at hl
 | k0 :: ks,b0 :: bs,H,k,b,hk,hl,h=>by
  simp only [gy] at h
  have h0:=hk k0 (by simp)
  rcases tw ks bs (aE H k0 b0) k b (fun k hk'=>by rw [aB]; exact hk k (by simp [hk'])) (by simpa using hl) h with ⟨j,h1,h2⟩ | ⟨h1,h2,h3⟩
  ·rw [aB] at h2
   exact .inl ⟨j + 1,by simpa using h1,by simpa using h2⟩
  rw [cr] at h3
  rw [aB] at h1
  by_cases e:k=k0
  ·subst e
   rw [if_pos ⟨rfl,h0⟩] at h3
   exact .inl ⟨0,by simpa using h3,by simp⟩
  rw [if_neg (by simp [e])] at h3
  exact .inr ⟨h1,by simp [e,h2],h3⟩
theorem mV:∀ (ks:List Nat) (bs H:aw),ks.length≤bs.length→(gy H ks bs).length=H.length + (bs.length - ks.length)
 | [],bs,H,_=>by simp [gy]
 | k0 :: ks,[],H,hl=>by simp at hl
 | k0 :: ks,b0 :: bs,H,hl=>by
  simp only [gy]
  rw [mV ks bs _ (by simpa using hl),aB]; simp
def dh:aw→aw→Bool
 | .mp _ _ _ :: r,.mp _ _ _ :: t=>dh r t
 | .mp _ _ _ :: _,_=>false
 | .lp _ :: r,.lp _ :: t=>dh r t
 | .lp _ :: _,_=>false
 | _ :: r,_ :: t=>dh r t
 | [],_=>true
 | _ :: _,[]=>false
theorem oI:∀ {H0 H1:aw},dh H0 H1=true→∀ (j:Nat) (kk:IntKind) (d:Int→Bool) (v:Int→PV),H0[j]? = some (.mp kk d v)→∃ kk' d' v',H1[j]? = some (.mp kk' d' v')
 | [],_,_,j,_,_,_,h=>by simp at h
 | b :: r,[],hm,_,_,_,_,_=>by cases b<;>simp [dh] at hm
 | b :: r,b' :: t,hm,0,kk,d,v,h=>by
  simp at h; subst h
  cases b'<;>simp [dh] at hm
  exact ⟨_,_,_,rfl⟩
 | b :: r,b' :: t,hm,j + 1,kk,d,v,h=>by
  have hm2:dh r t=true:=by cases b<;>cases b'<;>simp [dh] at hm<;>exact hm
  simpa using oI hm2 j kk d v (by simpa using h)
theorem pI:∀ {H0 H1:aw},dh H0 H1=true→∀ (j:Nat) (r0:Loop),H0[j]? = some (.lp r0)→∃ r1,H1[j]? = some (.lp r1)
 | [],_,_,j,_,h=>by simp at h
 | b :: r,[],hm,_,_,_=>by cases b<;>simp [dh] at hm
 | b :: r,b' :: t,hm,0,r0,h=>by
  simp at h; subst h
  cases b'<;>simp [dh] at hm
  exact ⟨_,rfl⟩
 | b :: r,b' :: t,hm,j + 1,r0,h=>by
  have hm2:dh r t=true:=by cases b<;>cases b'<;>simp [dh] at hm<;>exact hm
  simpa using pI hm2 j r0 (by simpa using h)
def Ds (av:AV) (H0 H1:aw):Bool:=
 bb H1.length av && H1.all (fun | .own c=>c.all (bb H1.length) | .dx _ _=>false | _=>true) && decide (H0.length≤H1.length) && dh H0 H1 && H0.all kF
def pB (C:Ctx) (m:Map) (H:aw) (ks:List Nat) (H0:aw) (w:World):Ctx:=
 ⟨fun b=>OK C m H w b,fun b=>w.heap.size≤b∨∃ (j:Nat) (b0:aL) (l:Loc),H0[j]? = some b0∧b0.wr=true∧cK m ks j=some l∧l.g=b,w,cK m ks⟩
theorem Rel.ru (R:Rel C m s tmps w) {k:Nat} {b:aL} (hb:s.H[k]? = some b) (hw:b.wr=true) {l:Loc} (hl:m k=some l):C.B l.g∧l.g < w.heap.size:=by
 cases b with
 | own c =>
  rcases R.blk k c hb with ⟨_,hn⟩ | ⟨l',cur,e,a1,a2,a3,_⟩
  ·rw [hl] at hn; cases hn
  rw [hl] at a1; cases a1
  exact ⟨a2,(Array.getElem?_eq_some_iff.1 a3).1⟩
 | mp kk d v =>
  obtain ⟨l',ar,clk,vs,a1,a2,a3,_⟩:=R.mp.1 k kk d v hb
  rw [hl] at a1; cases a1
  exact ⟨a2,(Array.getElem?_eq_some_iff.1 a3).1⟩
 | lp r =>
  obtain ⟨l',a1,a2,a3⟩:=R.mp.2.2.2.1 k r hb
  rw [hl] at a1; cases a1
  exact ⟨a2,(Array.getElem?_eq_some_iff.1 a3).1⟩
 | _=>cases hw
theorem Rel.HY (R:Rel C m s tmps w) {k k' : Nat} {b b' : aL} (hb:s.H[k]? = some b) (hw:b.wr=true) (hb' : s.H[k']? = some b') (hw' : b'.wr=true) {l l' : Loc} (hl:m k=some l) (hl' : m k' = some l') (e:l.g=l'.g):k=k':=by
 cases b with
 | own c =>
  cases b' with
  | own c'=>exact R.inj k k' c c' l l' hb hb' hl hl' e
  | mp kk d v=>exact absurd e ((R.rI hb' hl').2.2 k c l hb hl)
  | lp r=>exact absurd e ((R.xt hb' hl').2.2 k c l hb hl)
  | _=>cases hw'
 | mp kk d v =>
  cases b' with
  | own c'=>exact absurd e.symm ((R.rI hb hl).2.2 k' c' l' hb' hl')
  | mp kk' d' v'=>exact R.mp.2.1 _ _ _ _ _ _ _ _ _ _ hb hb' hl hl' e
  | lp r =>
   exfalso
   obtain ⟨l1,ar,clk,vs,a1,a2,a3,_⟩:=R.mp.1 k kk d v hb
   obtain ⟨l2,b1,b2,b3⟩:=R.mp.2.2.2.1 k' r hb'
   rw [hl] at a1; cases a1
   rw [hl'] at b1; cases b1
   rw [e,b3] at a3; cases a3
  | _=>cases hw'
 | lp r =>
  cases b' with
  | own c'=>exact absurd e.symm ((R.xt hb hl).2.2 k' c' l' hb' hl')
  | mp kk d v =>
   exfalso
   obtain ⟨l1,ar,clk,vs,a1,a2,a3,_⟩:=R.mp.1 k' kk d v hb'
   obtain ⟨l2,b1,b2,b3⟩:=R.mp.2.2.2.1 k r hb
   rw [hl'] at a1; cases a1
   rw [hl] at b1; cases b1
   rw [e,a3] at b3; cases b3
  | lp r'=>exact R.mp.2.2.2.2 _ _ _ _ _ _ hb hb' hl hl' e
  | _=>cases hw'
 | _=>cases hw
theorem kp.wr {π:List Nat} {H H1:aw} (h3:kp π H π H1) {j:Nat} {b0:aL} (h:H1[j]? = some b0) (hw:b0.wr=true):∃ k' b,π[j]? = some k'∧H[k']? = some b∧b.wr=true∧((∃ c,b0 = .own c)→∃ c,b = .own c)∧((∃ kk d v,b0 = .mp kk d v)→∃ kk d v,b = .mp kk d v):=by
 obtain ⟨g1,g2⟩:=h3.get
 cases b0 with
 | own c =>
  obtain ⟨k',d,a1,a2,_⟩:=kp.own g2 j c h
  exact ⟨k',_,a1,a2,rfl,(fun _=>⟨_,rfl⟩),fun ⟨_,_,_,h⟩=>by cases h⟩
 | mp kk d v =>
  obtain ⟨k',a,b⟩:=g2 j _ h
  exact ⟨k',_,a,b9 b (by simp),rfl,(fun ⟨_,h⟩=>by cases h),fun _=>⟨_,_,_,rfl⟩⟩
 | lp r =>
  obtain ⟨k',a,b⟩:=g2 j _ h
  exact ⟨k',_,a,b9 b (by simp),rfl,(fun ⟨_,h⟩=>by cases h),fun ⟨_,_,_,h⟩=>by cases h⟩
 | _=>cases hw
def iL (H:aw):List Nat→aw
 | []=>H
 | k :: ks=>iL (aE H k .dead) ks
theorem eo:∀ (ks:List Nat) (H:aw),(iL H ks).length=H.length
 | [],H=>rfl
 | k :: ks,H=>by rw [iL,eo ks,aB]
theorem pK:∀ (ks:List Nat) (H:aw) {k:Nat} {b:aL},(iL H ks)[k]? = some b→(k∈ks∧b = .dead)∨(k ∉ ks∧H[k]? = some b)
 | [],H,k,b,h=>.inr ⟨by simp,h⟩
 | k0 :: ks,H,k,b,h=>by
  rcases pK ks _ h with ⟨h1,h2⟩ | ⟨h1,h2⟩
  ·exact .inl ⟨by simp [h1],h2⟩
  rw [cr] at h2
  by_cases e:k=k0∧k0 < H.length
  ·rw [if_pos e] at h2; exact .inl ⟨by simp [e.1],(Option.some.inj h2).symm⟩
  rw [if_neg e] at h2
  by_cases e2:k=k0
  ·have:=(List.getElem?_eq_some_iff.1 h2).1
   exact absurd ⟨e2,by omega⟩ e
  exact .inr ⟨by simp [e2,h1],h2⟩
def HL (q:Nat) (av:AV) (H0 H1:aw):Bool:=
 bb H1.length av && H1.all (fun | .own c=>c.all (bb H1.length) | .dx _ _=>false | _=>true) && decide (q≤H1.length) && decide (q≤H0.length) && dh (H0.take q) H1 && (H0.drop q).all (fun b=>!b.Dz) && H0.all kF
theorem Rel.GO (R:Rel C m s tmps w) {q:Nat} {ks:List Nat} {H0 H1:aw} {r:AV} {w' : World} {v:Value} {m' : Map} (hle:kp ks s.H ks H0) (hks:∀ k∈ks,k < s.H.length) (R1:Rel (pB C m s.H ks H0 w) m' ⟨1,[(0,r)],H1++dD 0 q⟩ #[v] w') (ew:HL q r H0 H1=true) :
  ∃ m2,Rel C m2 { s with H:=gy (iL s.H (ks.drop q)) (ks.take q) (H1.map (aL.bl (ks.take q++List.range' s.H.length (H1.length - q)))) } tmps w' ∧
   aH (Reads (OK C m2 (gy (iL s.H (ks.drop q)) (ks.take q) (H1.map (aL.bl (ks.take q++List.range' s.H.length (H1.length - q))))) w') w') m2 (gy (iL s.H (ks.drop q)) (ks.take q) (H1.map (aL.bl (ks.take q++List.range' s.H.length (H1.length - q))))) (Go.Pv.bl (ks.take q++List.range' s.H.length (H1.length - q)) r) v∧∀ k,k < s.H.length→m2 k=m k:=by
 obtain ⟨g1,g2⟩:=hle.get
 unfold HL at ew
 rw [Bool.and_eq_true,Bool.and_eq_true,Bool.and_eq_true,Bool.and_eq_true,Bool.and_eq_true,Bool.and_eq_true,decide_eq_true_eq,decide_eq_true_eq] at ew
 obtain ⟨⟨⟨⟨⟨⟨s1,s2⟩,s3⟩,s6⟩,s4⟩,s7⟩,s5⟩:=ew
 have hn:q≤H1.length:=s3
 have hqk:q≤ks.length:=by omega
 have hkt:∀ k∈ks.take q,k∈ks:=fun k h=>List.mem_of_mem_take h
 have htl:(ks.take q).length=q:=by rw [List.length_take]; omega
 generalize hσe:ks.take q++List.range' s.H.length (H1.length - q)=σ
 have hσlen:σ.length=H1.length:=by rw [← hσe,List.length_append,htl,List.length_range']; omega
 generalize hH2:gy (iL s.H (ks.drop q)) (ks.take q) (H1.map (aL.bl σ))=H2
 have hlen2:H2.length=s.H.length + (H1.length - q):=by rw [← hH2,mV _ _ _ (by rw [htl,List.length_map]; exact hn),eo,htl]; simp
 have hm1:∀ j,j < q→m' j=cK m ks j:=fun j hj=>by
  have h:(H1++dD 0 q)[H1.length + j]? = some (.dx j j):=by
   rw [List.getElem?_append_right (by omega),Nat.add_sub_cancel_left,wS _ _ _ hj,Nat.zero_add]
  exact (R1.mp.2.2.1 _ _ _ h).2
 obtain ⟨m2,hm2⟩:∃ m2:Map,m2=fun k=>if k < s.H.length then m k else m' (q + (k - s.H.length)):=⟨_,rfl⟩
 have hmo:∀ k,k < s.H.length→m2 k=m k:=fun k h=>by rw [hm2]; simp [h]
 have hσ:∀ (j k:Nat),σ[j]? = some k→k < H2.length∧m2 k=m' j:=by
  intro j k h
  rw [← hσe] at h
  by_cases hj:j < q
  ·rw [List.getElem?_append_left (by omega)] at h
   rw [List.getElem?_take,if_pos hj] at h
   have hk:=hks k (List.mem_of_getElem? h)
   refine ⟨by omega,?_⟩
   rw [hmo k hk,hm1 j (by omega)]
   simp only [cK,h,Option.bind_some]
  rw [List.getElem?_append_right (by omega),htl] at h
  have hj2:j - q < H1.length - q:=by
   have:=(List.getElem?_eq_some_iff.1 h).1
   simpa using this
  rw [List.getElem?_range' hj2] at h
  simp only [Option.some.injEq,Nat.one_mul] at h
  subst h
  refine ⟨by omega,?_⟩
  rw [hm2]
  simp only
  rw [if_neg (by omega)]
  congr 1
  omega
 have hσ2:∀ k,k < σ.length→σ.getD k 0 < H2.length∧m2 (σ.getD k 0)=m' k:=fun k hk=>by
  have:σ[k]? = some (σ.getD k 0):=by simp [List.getD,List.getElem?_eq_getElem hk]
  exact hσ k _ this
 have aq:∀ (k:Nat) (b:aL),H2[k]? = some b→(∃ (j:Nat) (b' : aL),H1[j]? = some b'∧b=b'.bl σ∧σ[j]? = some k)∨(k < s.H.length∧k ∉ ks∧s.H[k]? = some b)∨b = .dead:=by
  intro k b h
  rw [← hH2] at h
  rcases tw (ks.take q) _ (iL s.H (ks.drop q)) k b (fun k hk=>by rw [eo]; exact hks k (hkt k hk)) (by rw [htl,List.length_map]; exact hn) h with ⟨j,h1,h2⟩ | ⟨h1,h2,h3⟩
  ·rw [List.length_map,htl,eo,hσe] at h2
   rw [List.getElem?_map] at h1
   cases e:H1[j]? with
   | none=>rw [e] at h1; cases h1
   | some b'=>rw [e] at h1; exact .inl ⟨j,b',e,(Option.some.inj h1).symm,h2⟩
  rcases pK _ _ h3 with ⟨_,e⟩ | ⟨g3,g4⟩
  ·exact .inr (.inr e)
  refine .inr (.inl ⟨by rw [eo] at h1; exact h1,fun hk=>?_,g4⟩)
  rw [← List.take_append_drop q ks] at hk
  rcases List.mem_append.1 hk with hk | hk
  ·exact h2 hk
  exact g3 hk
 have hHc:∀ (j:Nat) (b:aL),H1[j]? = some b→(H1++dD 0 q)[j]? = some b:=fun j b h=>by
  rw [List.getElem?_append_left (List.getElem?_eq_some_iff.1 h).1]; exact h
 have hown:∀ (k:Nat) (c:List AV),H2[k]? = some (.own c)→(∃ (j:Nat) (c' : List AV),H1[j]? = some (.own c')∧c=c'.map (Go.Pv.bl σ)∧σ[j]? = some k)∨(k < s.H.length∧k ∉ ks∧s.H[k]? = some (.own c)):=by
  intro k c h
  rcases aq k _ h with ⟨j,b',h1,h2,h3⟩ | h | h
  ·cases b' with
   | own c'=>simp only [aL.bl,aL.own.injEq] at h2; exact .inl ⟨j,c',h1,h2,h3⟩
   | _=>cases h2
  ·exact .inr h
  cases h
 have hmps:∀ (k:Nat) (kk:IntKind) (d:Int→Bool) (vv:Int→PV),H2[k]? = some (.mp kk d vv)→(∃ j:Nat,H1[j]? = some (.mp kk d vv)∧σ[j]? = some k)∨(k < s.H.length∧k ∉ ks∧s.H[k]? = some (.mp kk d vv)):=by
  intro k kk d vv h
  rcases aq k _ h with ⟨j,b',h1,h2,h3⟩ | h | h
  ·cases b' with
   | mp kk' d' v'=>simp only [aL.bl,aL.mp.injEq] at h2; obtain ⟨rfl,rfl,rfl⟩:=h2; exact .inl ⟨j,h1,h3⟩
   | _=>cases h2
  ·exact .inr h
  cases h
 have hfro:∀ (k:Nat) (c:List PV),H2[k]? = some (.fro c)→(∃ j:Nat,H1[j]? = some (.fro c)∧σ[j]? = some k)∨(k < s.H.length∧k ∉ ks∧s.H[k]? = some (.fro c)):=by
  intro k c h
  rcases aq k _ h with ⟨j,b',h1,h2,h3⟩ | h | h
  ·cases b' with
   | fro c'=>simp only [aL.bl,aL.fro.injEq] at h2; subst h2; exact .inl ⟨j,h1,h3⟩
   | _=>cases h2
  ·exact .inr h
  cases h
 have lent:∀ (j:Nat) (b0:aL) (l:Loc),H0[j]? = some b0→b0.wr=true→cK m ks j=some l→∃ k' b,k'∈ks∧s.H[k']? = some b∧b.wr=true∧m k' = some l∧((∃ c,b0 = .own c)→∃ c,b = .own c)∧((∃ kk d v,b0 = .mp kk d v)→∃ kk d v,b = .mp kk d v):=by
  intro j b0 l h hw hl
  obtain ⟨k',b,a1,a2,a3,a4,a5⟩:=hle.wr h hw
  simp only [cK,a1,Option.bind_some] at hl
  exact ⟨k',b,List.mem_of_getElem? a1,a2,a3,hl,a4,a5⟩
 have hB1:∀ b,(pB C m s.H ks H0 w).B b→C.B b:=by
  intro b hb
  rcases hb with hb | ⟨j,b0,l,h1,h2,h3,rfl⟩
  ·exact R.base b hb
  obtain ⟨k',b,_,a2,a3,a4,_⟩:=lent j b0 l h1 h2 h3
  exact (R.ru a2 a3 a4).1
 have hBx:∀ (k:Nat) (b:aL) (l:Loc),k ∉ ks→s.H[k]? = some b→b.wr=true→m k=some l→¬ (pB C m s.H ks H0 w).B l.g:=by
  intro k b l hk hb hw hl hB
  rcases hB with hB | ⟨j,b0,l0,h1,h2,h3,h4⟩
  ·have:=(R.ru hb hw hl).2
   omega
  obtain ⟨k',b',a1,a2,a3,a4,_⟩:=lent j b0 l0 h1 h2 h3
  have:=R.HY hb hw a2 a3 hl a4 h4.symm
  subst this
  exact hk a1
 have hcell:∀ b o x,OK C m s.H w b→w.cell? ⟨b,o,none⟩=some x→w'.cell? ⟨b,o,none⟩=some x:=by
  intro b o x hb hc
  by_cases hB:(pB C m s.H ks H0 w).B b
  ·exfalso
   rcases hB with hB | ⟨j,b0,l0,h1,h2,h3,h4⟩
   ·have:=hb.2.1; omega
   obtain ⟨k',b',a1,a2,a3,a4,_⟩:=lent j b0 l0 h1 h2 h3
   cases b' with
   | own c=>exact hb.2.2 k' c l0 a2 a4 h4
   | mp kk d vv =>
    obtain ⟨l',ar,clk,vs,c1,c2,c3,_⟩:=R.mp.1 k' kk d vv a2
    rw [a4] at c1; cases c1
    rw [h4] at c3
    unfold World.cell? at hc
    simp only [c3] at hc
    first|cases hc|simp at hc
   | lp rr =>
    obtain ⟨l',c1,c2,c3⟩:=R.mp.2.2.2.1 k' rr a2
    rw [a4] at c1; cases c1
    rw [h4] at c3
    unfold World.cell? at hc
    simp only [c3] at hc
    first|cases hc|simp at hc
   | _=>cases a3
  rw [World.cell?_of_block (w:=w) (R1.below.block b hB)]; exact hc
 have hOK:∀ b,OK (pB C m s.H ks H0 w) m' (H1++dD 0 q) w' b→OK C m2 H2 w' b:=by
  intro b hb
  refine ⟨?_,hb.2.1,fun k c l h hl=>?_⟩
  ·rcases hb.1 with h | h
   ·exact h.1
   exact .inr (hB1 b h)
  rcases hown k c h with ⟨j,c',h1,_,h3⟩ | ⟨h1,h2,h3⟩
  ·rw [(hσ j k h3).2] at hl
   exact hb.2.2 j c' l (hHc _ _ h1) hl
  rw [hmo k h1] at hl
  rcases hb.1 with h' | h'
  ·exact h'.2.2 k c l h3 hl
  intro e
  exact hBx k _ l h2 h3 rfl hl (by rw [e]; exact h')
 have hsp:∀ (j:Nat) (b:aL),H0[j]? = some b→b.Dz=true→j < q:=fun j b h hb=>by
  refine Nat.lt_of_not_le fun hq=>?_
  have h2:(H0.drop q)[j - q]? = some b:=by rw [List.getElem?_drop,show q + (j - q)=j by omega]; exact h
  have:=(List.all_eq_true.1 s7) _ (List.mem_of_getElem? h2)
  rw [hb] at this; cases this
 have ho1:∀ b,OK C m s.H w b→OK C m2 H2 w' b:=by
  intro b hb
  refine ⟨hb.1,Nat.lt_of_lt_of_le hb.2.1 R1.below.size,fun k c l h hl e=>?_⟩
  rcases hown k c h with ⟨j,c',h1,_,h3⟩ | ⟨h1,h2,h3⟩
  ·rw [(hσ j k h3).2] at hl
   rcases (R1.ru (hHc _ _ h1) rfl hl).1 with hB | ⟨j0,b0,l0,a1,a2,a3,a4⟩
   ·have:=hb.2.1; omega
   obtain ⟨k',b',d1,d2,d3,d4,d5,d6⟩:=lent j0 b0 l0 a1 a2 a3
   cases b0 with
   | own c0 =>
    obtain ⟨c1,rfl⟩:=d5 ⟨_,rfl⟩
    exact hb.2.2 k' c1 l0 d2 d4 (by rw [a4,e])
   | mp kk d vv =>
    have hj0:=hsp j0 _ a1 rfl
    obtain ⟨kk',d',v',f1⟩:=oI s4 j0 kk d vv (by rw [List.getElem?_take,if_pos hj0]; exact a1)
    have f2:m' j0=some l0:=by rw [hm1 j0 hj0]; exact a3
    exact (R1.rI (hHc _ _ f1) f2).2.2 j c' l (hHc _ _ h1) hl a4.symm
   | lp rr =>
    have hj0:=hsp j0 _ a1 rfl
    obtain ⟨r1,f1⟩:=pI s4 j0 rr (by rw [List.getElem?_take,if_pos hj0]; exact a1)
    have f2:m' j0=some l0:=by rw [hm1 j0 hj0]; exact a3
    exact (R1.xt (hHc _ _ f1) f2).2.2 j c' l (hHc _ _ h1) hl a4.symm
   | _=>cases a2
  rw [hmo k h1] at hl
  exact hb.2.2 k c l h3 hl e
 have rd1:∀ p x,Reads (OK C m s.H w) w p x→Reads (OK C m2 H2 w') w' p x:=fun p x h=>h.En ho1 hcell
 have rd2:∀ p x,Reads (OK (pB C m s.H ks H0 w) m' (H1++dD 0 q) w') w' p x→Reads (OK C m2 H2 w') w' p x:=fun p x h=>h.mono hOK
 have hlen3:s.H.length≤H2.length:=by omega
 have sall:∀ (j:Nat) (b:aL),H1[j]? = some b→(match b with | .own c=>c.all (bb H1.length) | .dx _ _=>false | _=>true)=true:=fun j b h=>by
  have:=(List.all_eq_true.1 s2) _ (List.mem_of_getElem? h)
  cases b<;>exact this
 refine ⟨m2,⟨R.laid.ext rd1,R.below.trans ⟨R1.below.os,R1.below.tape,R1.below.output,R1.below.size,fun k hk=>R1.below.block k fun h=>hk (hB1 k h),R1.below.dr⟩,fun b h=>R.base b (Nat.le_trans R1.below.size h),R.size,?_,?_,?_,fun t=>?_,?_,?_,?_,?_⟩,?_,hmo⟩
 ·intro k k' c c' l l' h1 h2 h3 h4 h5
  rcases hown k c h1 with ⟨j,d,a1,_,a3⟩ | ⟨a1,a2,a3⟩<;>rcases hown k' c' h2 with ⟨j',d',b1,_,b3⟩ | ⟨b1,b2,b3⟩
  ·rw [(hσ _ _ a3).2] at h3; rw [(hσ _ _ b3).2] at h4
   have:=R1.inj j j' d d' l l' (hHc _ _ a1) (hHc _ _ b1) h3 h4 h5
   subst this
   rw [a3] at b3
   exact Option.some.inj b3
  ·rw [(hσ _ _ a3).2] at h3; rw [hmo _ b1] at h4
   exact absurd (by rw [← h5]; exact (R1.ru (hHc _ _ a1) rfl h3).1) (hBx k' _ l' b2 b3 rfl h4)
  ·rw [hmo _ a1] at h3; rw [(hσ _ _ b3).2] at h4
   exact absurd (by rw [h5]; exact (R1.ru (hHc _ _ b1) rfl h4).1) (hBx k _ l a2 a3 rfl h3)
  rw [hmo _ a1] at h3; rw [hmo _ b1] at h4
  exact R.inj k k' c c' l l' a3 b3 h3 h4 h5
 ·intro k c h
  rcases hown k c h with ⟨j,c',a1,rfl,a3⟩ | ⟨a1,a2,a3⟩
  ·rcases R1.blk j c' (hHc _ _ a1) with ⟨e,hn⟩ | ⟨l,cur,e,b1,b2,b3,b4,b5,b6,b7⟩
   ·exact .inl ⟨by rw [e]; rfl,by rw [(hσ _ _ a3).2]; exact hn⟩
   refine .inr ⟨l,cur,e,by rw [(hσ _ _ a3).2]; exact b1,hB1 _ b2,b3,b4,b5,by simpa using b6,fun i hi=>?_⟩
   rw [List.length_map] at hi
   rw [List.getElem_map]
   have hs:bb σ.length c'[i]=true:=by
    rw [hσlen]
    exact (List.all_eq_true.1 (sall j _ a1)) _ (List.getElem_mem hi)
   exact (b7 i hi).sig rd2 hσ2 hs
  refine (R.blk k c a3).ext rd1 hlen3 hmo (hmo k a1) fun l hl=>R1.below.block _ (hBx k _ l a2 a3 rfl hl)
 ·intro k c h
  rcases hfro k c h with ⟨j,a1,a3⟩ | ⟨a1,a2,a3⟩
  ·rcases R1.fro j c (hHc _ _ a1) with ⟨e1,e2⟩ | ⟨l,vs,e1,e2,e3,e4⟩
   ·exact .inl ⟨e1,by rw [(hσ _ _ a3).2]; exact e2⟩
   exact .inr ⟨l,vs,by rw [(hσ _ _ a3).2]; exact e1,hOK _ e2,e3,fun i hi=>⟨(e4 i hi).1,rd2 _ _ (e4 i hi).2⟩⟩
  rcases R.fro k c a3 with ⟨e1,e2⟩ | ⟨l,vs,e1,e2,e3,e4⟩
  ·exact .inl ⟨e1,by rw [hmo k a1]; exact e2⟩
  exact .inr ⟨l,vs,by rw [hmo k a1]; exact e1,ho1 _ e2,e3,fun i hi=>⟨hcell _ _ _ e2 (e4 i hi).1,rd1 _ _ (e4 i hi).2⟩⟩
 ·exact (R.slot t).ext rd1 hlen3 hmo
 ·intro k kk d vv h
  rcases hmps k kk d vv h with ⟨j,a1,a3⟩ | ⟨a1,a2,a3⟩
  ·obtain ⟨l,ar,clk,vs,b1,b2,b3,b4,b5,b6,b7⟩:=R1.mp.1 j kk d vv (hHc _ _ a1)
   exact ⟨l,ar,clk,vs,by rw [(hσ _ _ a3).2]; exact b1,hB1 _ b2,b3,b4,b5,b6,fun z hz=>rd2 _ _ (b7 z hz)⟩
  obtain ⟨l,ar,clk,vs,b1,b2,b3,b4,b5,b6,b7⟩:=R.mp.1 k kk d vv a3
  exact ⟨l,ar,clk,vs,by rw [hmo k a1]; exact b1,b2,by rw [R1.below.block _ (hBx k _ l a2 a3 rfl b1)]; exact b3,b4,b5,b6,fun z hz=>rd1 _ _ (b7 z hz)⟩
 ·intro k k' kk d vv kk' d' v' l l' h1 h2 h3 h4 h5
  rcases hmps k kk d vv h1 with ⟨j,a1,a3⟩ | ⟨a1,a2,a3⟩<;>rcases hmps k' kk' d' v' h2 with ⟨j',b1,b3⟩ | ⟨b1,b2,b3⟩
  ·rw [(hσ _ _ a3).2] at h3; rw [(hσ _ _ b3).2] at h4
   have:=R1.mp.2.1 _ _ _ _ _ _ _ _ _ _ (hHc _ _ a1) (hHc _ _ b1) h3 h4 h5
   subst this
   rw [a3] at b3
   exact Option.some.inj b3
  ·rw [(hσ _ _ a3).2] at h3; rw [hmo _ b1] at h4
   exact absurd (by rw [← h5]; exact (R1.ru (hHc _ _ a1) rfl h3).1) (hBx k' _ l' b2 b3 rfl h4)
  ·rw [hmo _ a1] at h3; rw [(hσ _ _ b3).2] at h4
   exact absurd (by rw [h5]; exact (R1.ru (hHc _ _ b1) rfl h4).1) (hBx k _ l a2 a3 rfl h3)
  rw [hmo _ a1] at h3; rw [hmo _ b1] at h4
  exact R.mp.2.1 _ _ _ _ _ _ _ _ _ _ a3 b3 h3 h4 h5
 ·intro k i j h
  rcases aq k _ h with ⟨j',b',h1,h2,_⟩ | ⟨a1,a2,a3⟩ | h
  ·have:=sall j' b' h1
   cases b' with
   | dx _ _=>cases this
   | _=>cases h2
  ·obtain ⟨c1,c2⟩:=R.mp.2.2.1 k i j a3
   exact ⟨by simp only; omega,by rw [hmo j c1]; exact c2⟩
  cases h
 ·have hlps:∀ (k:Nat) (r:Loop),H2[k]? = some (.lp r)→(∃ j:Nat,H1[j]? = some (.lp r)∧σ[j]? = some k)∨(k < s.H.length∧k ∉ ks∧s.H[k]? = some (.lp r)):=by
   intro k r h
   rcases aq k _ h with ⟨j,b',h1,h2,h3⟩ | h | h
   ·cases b' with
    | lp r'=>simp only [aL.bl,aL.lp.injEq] at h2; obtain rfl:=h2; exact .inl ⟨j,h1,h3⟩
    | _=>cases h2
   ·exact .inr h
   cases h
  constructor
  ·intro k r h
   rcases hlps k r h with ⟨j,a1,a3⟩ | ⟨a1,a2,a3⟩
   ·obtain ⟨l,b1,b2,b3⟩:=R1.mp.2.2.2.1 j r (hHc _ _ a1)
    exact ⟨l,by rw [(hσ _ _ a3).2]; exact b1,hB1 _ b2,b3⟩
   obtain ⟨l,b1,b2,b3⟩:=R.mp.2.2.2.1 k r a3
   exact ⟨l,by rw [hmo k a1]; exact b1,b2,by rw [R1.below.block _ (hBx k _ l a2 a3 rfl b1)]; exact b3⟩
  intro k k' r r' l l' h1 h2 h3 h4 h5
  rcases hlps k r h1 with ⟨j,a1,a3⟩ | ⟨a1,a2,a3⟩<;>rcases hlps k' r' h2 with ⟨j',b1,b3⟩ | ⟨b1,b2,b3⟩
  ·rw [(hσ _ _ a3).2] at h3; rw [(hσ _ _ b3).2] at h4
   have:=R1.mp.2.2.2.2 _ _ _ _ _ _ (hHc _ _ a1) (hHc _ _ b1) h3 h4 h5
   subst this
   rw [a3] at b3
   exact Option.some.inj b3
  ·rw [(hσ _ _ a3).2] at h3; rw [hmo _ b1] at h4
   exact absurd (by rw [← h5]; exact (R1.ru (hHc _ _ a1) rfl h3).1) (hBx k' _ l' b2 b3 rfl h4)
  ·rw [hmo _ a1] at h3; rw [(hσ _ _ b3).2] at h4
   exact absurd (by rw [h5]; exact (R1.ru (hHc _ _ b1) rfl h4).1) (hBx k _ l a2 a3 rfl h3)
  rw [hmo _ a1] at h3; rw [hmo _ b1] at h4
  exact R.mp.2.2.2.2 _ _ _ _ _ _ a3 b3 h3 h4 h5
 have:=R1.slot 0
 exact aH.sig rd2 hσ2 this (by rw [hσlen]; exact s1)
theorem xK (H:aw):iL H []=H:=rfl
theorem Rel.GV (R:Rel C m s tmps w) {ks:List Nat} {H0 H1:aw} {r:AV} {w' : World} {v:Value} {m' : Map} (hle:kp ks s.H ks H0) (hks:∀ k∈ks,k < s.H.length) (R1:Rel (pB C m s.H ks H0 w) m' ⟨1,[(0,r)],H1++dD 0 H0.length⟩ #[v] w') (ew:Ds r H0 H1=true) :
  ∃ m2,Rel C m2 { s with H:=gy s.H ks (H1.map (aL.bl (ks++List.range' s.H.length (H1.length - ks.length)))) } tmps w' ∧
   aH (Reads (OK C m2 (gy s.H ks (H1.map (aL.bl (ks++List.range' s.H.length (H1.length - ks.length))))) w') w') m2 (gy s.H ks (H1.map (aL.bl (ks++List.range' s.H.length (H1.length - ks.length))))) (Go.Pv.bl (ks++List.range' s.H.length (H1.length - ks.length)) r) v:=by
 have g1:=(hle.get).1
 have h:=R.GO (q:=H0.length) hle hks R1 (by
  unfold Ds at ew
  unfold HL
  rw [Bool.and_eq_true,Bool.and_eq_true,Bool.and_eq_true,Bool.and_eq_true] at ew
  obtain ⟨⟨⟨⟨s1,s2⟩,s3⟩,s4⟩,s5⟩:=ew
  rw [s1,s2,s3,s5,List.take_length,s4,List.drop_length]; simp)
 rw [← g1,List.take_length,List.drop_length,xK] at h
 obtain ⟨m2,h1,h2,_⟩:=h
 exact ⟨m2,h1,h2⟩
def AY (H:aw) (ks:List Nat) (x a:AV):Prop:=
 match a with
 | .p pv=>(match dK H x with | some (p,pv',true)=>p∧pv' = pv | _=>False)
 | a=>x=Go.Pv.bl ks a∧bb ks.length a=true
def sE (H:aw) (ks:List Nat):List AV→List AV→Prop
 | x :: xs,a :: avs=>AY H ks x a∧sE H ks xs avs
 | [],[]=>True
 | _,_=>False
theorem pO (R:Rel C m s tmps w) {rd' : PV→Value→Prop} {ks:List Nat} {H0:aw} (h1:∀ p v,Reads (OK C m s.H w) w p v→rd' p v) (hl:H0.length=ks.length):∀ (X avs:List AV) (f:Nat→Value),sE s.H ks X avs→(∀ i (h:i < X.length),aH (Reads (OK C m s.H w) w) m s.H X[i] (f i)) →
  avs.length=X.length∧∀ i (h:i < avs.length),aH rd' (cK m ks) H0 avs[i] (f i)
 | [],[],f,_,_=>⟨rfl,fun i h=>by simp at h⟩
 | x :: xs,a :: avs,f,h,hv=>by
  obtain ⟨k1,k2⟩:=pO R h1 hl xs avs (fun i=>f (i + 1)) h.2 fun i hi=>by have:=hv (i + 1) (by simp; omega); rwa [List.getElem_cons_succ] at this
  refine ⟨by simp [k1],fun i hi=>?_⟩
  cases i with
  | succ i=>simpa using k2 i (by simpa using hi)
  | zero =>
   have hx:=hv 0 (by simp)
   simp only [List.getElem_cons_zero] at hx ⊢
   have h0:=h.1
   unfold AY at h0
   split at h0
   ·rename_i pv
    split at h0
    ·rename_i p pv' hp
     obtain ⟨g1,rfl⟩:=h0
     exact .p _ _ (h1 _ _ ((fM R hx hp g1).2 rfl))
    exact h0.elim
   obtain ⟨rfl,ew⟩:=h0
   exact hx.tg h1 hl ew
 | [],_ :: _,_,h,_=>h.elim
 | _ :: _,[],_,h,_=>h.elim
theorem uS {o:Oper} {fo:Operand} {args:Array Operand} {ts:Array TypeId} (ho:o.op = .call { callee:=.value fo,args:=args,argTypes:=ts }) {g:FuncId} {cap:List PV} (hfo:s.ev fo = .p (.fn g cap)) {ks:List Nat} {avs:List AV} {H0 H1:aw} {r:AV}
  (hc:FR P g avs H0 r H1) (hargs:sE s.H ks (args.toList.map s.ev++cap.map .p) avs) (hle:kp ks s.H ks H0) (hnd:ks.Nodup) (hks:ks.all (fun k=>decide (k < s.H.length))=true) (ew:Ds r H0 H1=true) :
  fe P o s (Go.Pv.bl (ks++List.range' s.H.length (H1.length - ks.length)) r) (gy s.H ks (H1.map (aL.bl (ks++List.range' s.H.length (H1.length - ks.length))))):=by
 intro C m a w K Q R hK
 have hks' : ∀ k∈ks,k < s.H.length:=fun k hk=>by simpa using (List.all_eq_true.1 hks) k hk
 have hfv:=R.ev fo
 rw [hfo] at hfv
 generalize hfe:a.eval fo=fv at hfv
 have hfv:=hfv.aQ
 cases hfv with
 | fn _ _ vs hcl hcr =>
  obtain ⟨⟨fn,hfn,hnm,hbd⟩,hcalls⟩:=hc
  have hrun:(execOp a.eval o).run P w = .ok (.enter g (args.map a.eval++vs)) w:=by
   have hnm' : ¬ fn.name = "runtime.NumGoroutine":=by simpa using hnm
   have hbd' : ¬ fn.body=none:=by intro e; rw [e] at hbd; simp at hbd
   simp [execOp,ho,resolve,hfe,Deferred.ofValue,invoke,callFunc,hfn,hnm',hbd']
  refine eF (by first|rfl|(rw [ho]; rfl)) ?_
  unfold Oper.wp
  rw [hrun]
  simp only [Oper.upon]
  obtain ⟨g1,g2⟩:=hle.get
  have ho1:∀ b,OK C m s.H w b→OK (pB C m s.H ks H0 w) (cK m ks) H0 w b:=by
   refine fun b h=>⟨.inl h,h.2.1,fun k c l hk hl=>?_⟩
   obtain ⟨k',d,a1,a2,_⟩:=kp.own g2 k c hk
   simp only [cK,a1,Option.bind_some] at hl
   exact h.2.2 k' _ l a2 hl
  obtain ⟨e1,e2⟩:=pO R (rd':=Reads (OK (pB C m s.H ks H0 w) (cK m ks) H0 w) w) (H0:=H0) (fun p v h=>h.mono ho1) g1.symm _ avs (fun i=>(args.map a.eval++vs).getD i undef) hargs fun i hi=>by
   simp only [List.length_append,List.length_map,Array.length_toList] at hi
   by_cases hip:i < args.size
   ·rw [List.getElem_append_left (by simpa using hip)]
    simp only [Array.getD_eq_getD_getElem?]
    rw [Array.getElem?_append_left (by simpa using hip)]
    have:=R.ev args[i]
    simpa [Array.getElem?_eq_getElem hip] using this
   rw [List.getElem_append_right (by simp; omega)]
   simp only [Array.getD_eq_getD_getElem?]
   rw [Array.getElem?_append_right (by simp; omega)]
   simp only [List.getElem_map,List.length_map,Array.length_toList,Array.size_map]
   have:=hcr (i - args.size) (by omega)
   rw [Array.getD_eq_getD_getElem?] at this
   exact .p _ _ this
  have hsz:(args.map a.eval++vs).size=avs.length:=by
   rw [e1]; simp; omega
  have s5:H0.all kF=true:=by
   unfold Ds at ew
   rw [Bool.and_eq_true] at ew
   exact ew.2
  have R0:Rel (pB C m s.H ks H0 w) (cK m ks) ⟨avs.length,l9 0 avs,H0⟩ (args.map a.eval++vs) w:=by
   refine R.vu (s1:=⟨avs.length,l9 0 avs,H0⟩) hsz hnd hle ho1 (bZ.refl _ _) (fun b h=>.inl h) (fun k b l h hw hl _=>.inr ⟨k,b,l,h,hw,hl,rfl⟩) (fun k i j h=>?_) fun t=>?_
   ·exact absurd rfl (mS ((List.all_eq_true.1 s5) _ (List.mem_of_getElem? h)) i j)
   unfold St.get
   simp only
   rw [rh,if_pos (Nat.zero_le _),Nat.sub_zero]
   by_cases ht:t < avs.length
   ·have:=e2 t ht
    simpa [List.getD,List.getElem?_eq_getElem ht] using this
   rw [List.getD_eq_getElem?_getD,List.getElem?_eq_none (by omega)]
   exact .dead _
  have R0':=R0.EE (n:=H0.length) (Nat.le_refl _) fun i _=>rfl
  refine (hcalls _ _ w _ R0').mono fun e w' ⟨v,m',he,R1⟩=>?_
  subst he
  obtain ⟨m2,R2,hv⟩:=R.GV hle hks' R1 ew
  exact hK v m2 w' R2 hv
theorem nZ {all:Array Oper} {rest:List Oper} {K:St→Prop} {dst:Option Tmp} {ty:TypeId} {pos:String} {aft:Array Edge} {gd:Option (Nat × Bool)} {fo:Operand} {args:Array Operand} {ts:Array TypeId} {g:FuncId} {avs:List AV} {H0 H1:aw} {r:AV} (ks:List Nat)
  (hc:FR P g avs H0 r H1) {cap:List PV} (hfo:s.ev fo = .p (.fn g cap)) (hg:bw all s { dst:=dst,op:=.call { callee:=.value fo,args:=args,argTypes:=ts },type:=ty,pos:=pos,after:=aft,guard:=gd } = some true)
  (hargs:sE s.H ks (args.toList.map s.ev++cap.map .p) avs) (hle:kp ks s.H ks H0) (hnd:ks.Nodup) (hks:ks.all (fun k=>decide (k < s.H.length))=true) (ew:Ds r H0 H1=true) (hd:ay s dst)
  (h:iA P false all rest K (({ s with H:=gy s.H ks (H1.map (aL.bl (ks++List.range' s.H.length (H1.length - ks.length)))) } : St).put dst (Go.Pv.bl (ks++List.range' s.H.length (H1.length - ks.length)) r))) :
  iA P false all ({ dst:=dst,op:=.call { callee:=.value fo,args:=args,argTypes:=ts },type:=ty,pos:=pos,after:=aft,guard:=gd } :: rest) K s:=by
 obtain ⟨s',hr,hK⟩:=h
 exact ⟨s',.cons (.op s _ _ hg (cP hd) (uS rfl hfo hc hargs hle hnd hks ew) fun h=>by cases h) hr,hK⟩
end
end Go.Pv
namespace Go.Proofs.YtjlmpmidchddjaaDoor
open Go.Pv
def pr (p:Nat):Prop:=p=2∨p=3∨p=5∨p=7
instance (p:Nat):Decidable (pr p):=by unfold pr; infer_instance
theorem pr.le {p:Nat} (h:pr p):2≤p∧p≤7:=by unfold pr at h; omega
def cO (f:Nat→Int) (i j:Nat) (u:List Int):List Int:=(List.range u.length).map fun t=>if i≤t∧t < j then f t else u.getD t 0
theorem bF (f:Nat→Int) (i j:Nat) (u:List Int):(cO f i j u).length=u.length:=by simp [cO]
theorem df {f:Nat→Int} {i j t:Nat} {u:List Int} (h:t < u.length):(cO f i j u).getD t 0=if i≤t∧t < j then f t else u.getD t 0:=by
 simp [cO,List.getD,List.getElem?_map,List.getElem?_range h]
theorem di (f:Nat→Int) (i:Nat) (u:List Int):cO f i i u=u:=by
 apply List.ext_getElem (by rw [bF])
 intro t h1 h2
 have:=df (f:=f) (i:=i) (j:=i) (t:=t) (u:=u) h2
 rw [if_neg (by omega)] at this
 simpa [List.getD,List.getElem?_eq_getElem h1,List.getElem?_eq_getElem h2] using this
theorem gu {f:Nat→Int} {i j:Nat} {u:List Int} (hi:i≤j) (hj:j < u.length):(cO f i j u).set j (f j)=cO f i (j + 1) u:=by
 apply List.ext_getElem (by simp [bF])
 intro t h1 h2
 have h3:t < u.length:=by simpa [bF] using h2
 have e1:=df (f:=f) (i:=i) (j:=j) (t:=t) (u:=u) h3
 have e2:=df (f:=f) (i:=i) (j:=j + 1) (t:=t) (u:=u) h3
 simp only [List.getD,List.getElem?_eq_getElem (show t < (cO f i j u).length by rw [bF]; exact h3),List.getElem?_eq_getElem h2,Option.getD_some] at e1 e2
 rw [e2,List.getElem_set]
 by_cases e:j=t
 ·subst e
  rw [if_pos rfl,if_pos (by omega)]
 rw [if_neg e,e1]
 by_cases h4:i≤t∧t < j
 ·rw [if_pos h4,if_pos (by omega)]
 rw [if_neg h4,if_neg (by omega)]
def Gh (p:Nat) (u:List Int):Prop:=∀ t,t < u.length→0≤u.getD t 0∧u.getD t 0 < p
structure IL (p n:Nat) (L:List (Nat × List Int)):Prop where
 keys:(L.map (·.1)).Nodup
 lt:∀ e∈L,e.1 < n
 len:∀ e∈L,e.2.length=n
 rg:∀ e∈L,Gh p e.2
 one:∀ e∈L,e.2.getD e.1 0=1
 zero:∀ e∈L,∀ j,j < e.1→e.2.getD j 0=0
theorem bC {p:Nat} (hp:0 < p) (x:Int):0≤x % (p:Int)∧x % (p:Int) < p:=⟨Int.emod_nonneg _ (by omega),Int.emod_lt_of_pos _ (by omega)⟩
theorem zb {p:Nat} (hp:0 < p) (x:Int):Int.tmod (Int.tmod x p + p) p=x % p:=by
 have h1:Int.tmod x p + p ≥ 0:=by
  have h2:=Int.lt_tmod_of_pos x (show (0:Int) < p by omega)
  omega
 rw [Int.tmod_eq_emod_of_nonneg h1,Int.add_emod_right]
 have h3:=Int.tmod_def x p
 rw [h3,show x - (p:Int) * x.tdiv p=x + (p:Int) * (-(x.tdiv p)) by rw [Int.mul_neg]; omega,Int.add_mul_emod_self_left]
end Go.Proofs.YtjlmpmidchddjaaDoor
namespace Go.Pv
open Go.RowKit
def tl (M:List (List Int)):aw:=M.map fun v=>.own (ol v)
def fr (M:List (List Int)):aw:=M.map fun v=>.fro (il v)
def qI (N a c:Nat):List AV:=(List.range' a c).map fun q=>.sl (q + 3) 0 N
def rws (N c:Nat):List AV:=qI N 0 c
theorem aD (M:List (List Int)):(tl M).length=M.length:=by simp [tl]
theorem dW (N c:Nat):(rws N c).length=c:=by simp [rws,qI]
theorem lA (N c:Nat):rws N c++[.sl (c + 3) 0 N]=rws N (c + 1):=by
 simp [rws,qI,List.range'_concat]
theorem Bg {N c a:Nat} (h:a < c) (d:AV):(rws N c).getD a d = .sl (a + 3) 0 N:=by
 simp [rws,qI,List.getD,List.getElem?_map,List.getElem?_range' h]
theorem fI:∀ (H:aw) (k:Nat),aq H k=H.getD k .dead
 | [],k=>by simp [aq]
 | b :: r,0=>by simp [aq]
 | b :: r,k + 1=>by rw [aq,fI r k]; simp
theorem cZ:∀ (H:aw) (k:Nat) (b:aL),aE H k b=H.set k b
 | [],k,b=>by simp [aE]
 | x :: r,0,b=>by simp [aE]
 | x :: r,k + 1,b=>by rw [aE,cZ r k]; simp
theorem aV {M:List (List Int)} {i:Nat} (h:i < M.length):aq (tl M) i = .own (ol (M.getD i [])):=by
 rw [fI]
 simp [tl,List.getD,List.getElem?_map,List.getElem?_eq_getElem h]
theorem iG (M:List (List Int)) (i:Nat) (v:List Int):aE (tl M) i (.own (ol v))=tl (M.set i v):=by
 rw [cZ]
 simp [tl,List.map_set]
theorem a8 (A:aw) (x:aL):aq (A++[x]) A.length=x:=by
 rw [aY (Nat.le_refl _),Nat.sub_self]; rfl
theorem ta (N c:Nat):(rws N c).take c=rws N c:=List.take_of_length_le (by rw [dW]; exact Nat.le_refl _)
theorem AU (N c:Nat):(rws N c).all bp=true:=by
 simp [rws,qI,bp]
theorem kR (M:List (List Int)) (v:List Int):tl M++[.own (ol v)]=tl (M++[v]):=by simp [tl]
theorem yT (M:List (List Int)):(ll M).all PV.one=true:=by simp [ll,PV.one]
theorem cu {P:Program} {T:TypeId→Option TI} {s:St} (hT:∀ t ti,T t=some ti→bq P t=some ti) {o:Oper} {t:TypeId} {x:Operand} (ho:o.op = .buildSlice t 1 #[(0,x)]) {ti te:TI} (ht:T t=some ti) {e:TypeId} (hk:ti.kind = .slice e) (hte:T e=some te) (hsz:te.size=1)
  {k lo len:Nat} (hx:s.ev x = .sl k lo len):fe P o s (.sl s.H.length 0 1) (s.H++[.own [.sl k lo len]]):=by
 intro C m a w K Q R hK
 have hv:=R.ev x
 rw [hx] at hv
 generalize hev:a.eval x=v at hv
 have hcs:v.cells = #[v]:=by
  cases hv with
  | sl _ _ _ _ hk hs =>
   rcases hs with ⟨_,ad,rfl⟩ | ⟨l,cap,_,rfl,_⟩<;>rfl
 have hu:=cT (hT _ _ ht) hk
 obtain ⟨i,d,z,h1,h2,h3,h4,h5,h6,h7,h8⟩:=aZ (hT _ _ hte)
 have hfill:∀ cs:Array Value,cs.size=1→Instr.fill (fun i=>some (i * te.size,te.size)) cs [(0,v)]=some #[v]:=by
  intro cs hc
  obtain ⟨y,rfl⟩:∃ y,cs = #[y]:=by
   match cs,hc with
   | ⟨[y]⟩,_=>exact ⟨y,rfl⟩
  simp [Instr.fill,hcs,hsz]
 have hss:=eR (hT _ _ hte) w
 have hb:Below w.heap.size w (w.alloc (.cells #[v] e)):=dp _
 have hrun:(execOp a.eval o).run P w = .ok (.value (.slice (some ⟨w.heap.size,0,none⟩) 1 1)) (w.alloc (.cells #[v] e)):=by
  have hne:¬ (1 * te.size > 2 ^ 24):=by omega
  have hz:¬ (1 * te.size=0):=by omega
  have hf:=hfill ((Array.range (1 * te.size)).map (z.cells[· % z.cells.size]!)) (by simp [hsz])
  have hpt:((#[(0,x)]:Array (Nat × Operand)).map fun q=>(q.1,a.eval q.2)).toList=[(0,v)]:=by simp [hev]
  simp only [execOp,ho,Instr.buildSlice,Sem.run_bind,run_underlying hu,Result.andThen_ok,hss,Sem.run_ite,hne,if_false,hz,zeroValue,typeInfo,run_program,h1,h3,Sem.run_pure,newRow]
  simp only [hpt,hf,Sem.run_bind,run_newObj,Result.andThen_ok,Sem.run_pure]
  rfl
 have hrel:=R.mr hb (cur:=#[v]) (e:=e) (heap_alloc_new w _) (oE (by simp [maxLen])) (c:=[.sl k lo len]) (by simp) (fun j hj=>by
  simp only [List.length_cons,List.length_nil,Nat.zero_add,Nat.lt_one_iff] at hj
  subst hj
  exact hv)
 refine eF (by first|rfl|(rw [ho]; rfl)) ?_
 unfold Oper.wp
 rw [hrun]
 refine hK _ _ _ hrel (.sl _ _ _ _ (by simp) <| .inr ⟨⟨w.heap.size,0,1⟩,1,by simp [bJ],by simp,Nat.le_refl _,by simp⟩)
section
variable {P:Program} {c:Code} {Q:Exit→St→Prop}
theorem vd {g o r:aL} : ∀ (M2 M1:List (List Int)) (s:St),s.H=g :: o :: r :: (fr M1++tl M2)→Holds P c Q { s with H:=g :: o :: r :: fr (M1++M2) }→Holds P c Q s
 | [],M1,s,hs,h=>by
  have e:s = { s with H:=g :: o :: r :: fr (M1++[]) }:=by
   cases s
   simp only at hs
   subst hs
   simp [tl]
  rw [e]; exact h
 | v :: M2,M1,s,hs,h=>by
  have hh:aq s.H (M1.length + 3) = .own (ol v):=by
   rw [hs,fI]
   simp [fr,tl,List.getD,List.getElem?_append_right]
  refine cJ (M1.length + 3) hh (jP v) ?_
  refine vd (g:=g) (o:=o) (r:=r) M2 (M1++[v]) _ ?_ (by simpa using h)
  show aE s.H _ _=_
  rw [hs,cZ]
  simp [fr,tl,List.set_append_right]
theorem tj {g o:aL} {N:Nat} {F:aw} : ∀ (M2 M1:List (List Int)) (s:St),(∀ v∈M2,v.length=N)→F=fr (M1++M2)→s.H=g :: o :: .own (bE (ll M1)++qI N M1.length M2.length) :: F →
  Holds P c Q { s with H:=g :: o :: .own (bE (ll (M1++M2))) :: F }→Holds P c Q s
 | [],M1,s,_,hF,hs,h=>by
  have e:s = { s with H:=g :: o :: .own (bE (ll (M1++[]))) :: F }:=by
   cases s
   simp only at hs
   subst hs
   simp [qI]
  rw [e]; exact h
 | v :: M2,M1,s,hv,hF,hs,h=>by
  have hv0:=hv v (by simp)
  have hl1:(bE (ll M1)).length=M1.length:=by rw [bB,au]
  have hh:aq s.H 2 = .own (bE (ll M1)++qI N M1.length (v :: M2).length):=by rw [hs]; rfl
  have hj:(bE (ll M1)++qI N M1.length (v :: M2).length)[M1.length]? = some (.sl (M1.length + 3) 0 N):=by
   rw [List.getElem?_append_right (by omega),hl1,Nat.sub_self]
   simp [qI,List.range'_succ]
  have hp:dB s.H (.sl (M1.length + 3) 0 N)=some (0 + N≤(il v).length∧(((il v).drop 0).take N).all PV.one=true,.list (((il v).drop 0).take N),true):=by
   have:aq s.H (M1.length + 3) = .fro (il v):=by
    rw [hs,hF,fI]
    simp [fr,List.getD]
   simp only [dB,this]
  have he:((il v).drop 0).take N=il v:=by
   rw [List.drop_zero,List.take_of_length_le (by rw [aJ]; omega)]
  rw [he] at hp
  refine n8 2 M1.length hh hj hp ⟨by rw [aJ]; omega,gL v⟩ ?_
  refine tj (g:=g) (o:=o) (N:=N) (F:=F) M2 (M1++[v]) _ (fun x hx=>hv x (by simp [hx])) (by rw [hF]; simp) ?_ (by simpa using h)
  show aE s.H 2 _=_
  rw [hs]
  have e:(bE (ll M1)++qI N M1.length (v :: M2).length).set M1.length (.p (.list (il v)))=bE (ll (M1++[v]))++qI N (M1++[v]).length M2.length:=by
   rw [List.set_append_right _ _ (by omega),hl1,Nat.sub_self]
   simp [qI,List.range'_succ,bE,ll]
  rw [e]
  rfl
theorem CK {s:St} (t:Nat) {g o:aL} {N:Nat} {M:List (List Int)} (hN:∀ v∈M,v.length=N) (h1:s.get t = .sl 2 0 M.length) (hH:s.H=g :: o :: .own (rws N M.length) :: tl M)
  (h:Holds P c Q { s with sl:=(t,.p (.list (ll M))) :: s.sl,H:=g :: o :: .fro (ll M) :: fr M }):Holds P c Q s:=by
 refine vd (g:=g) (o:=o) (r:=.own (rws N M.length)) M [] s (by rw [hH]; simp [fr]) ?_
 refine tj (g:=g) (o:=o) (N:=N) (F:=fr M) M [] _ hN (by simp) (by simp [rws,bE,ll]) ?_
 simp only [List.nil_append]
 refine cJ 2 rfl (jv (ll M)) ?_
 refine lj t (p:=0 + M.length≤(ll M).length∧(((ll M).drop 0).take M.length).all PV.one=true) (pv:=.list (((ll M).drop 0).take M.length)) ?_ ?_ ?_
 ·show dK _ (s.get t)=_
  rw [h1]
  simp only [aE,dK,dB,aq]
 ·rw [List.drop_zero,List.take_of_length_le (by rw [au]; exact Nat.le_refl _)]
  exact ⟨by rw [au]; omega,yT M⟩
 rw [List.drop_zero,List.take_of_length_le (by rw [au]; exact Nat.le_refl _)]
 simp only [aE]
 exact h
theorem zF {π:List Nat} {H:aw} : ∀ (M:List (List Int)) (ks:List Nat),ks.length=M.length→(∀ i,i < M.length→aq H (ks.getD i 0) = .own (ol (M.getD i [])))→kp π H ks (tl M)
 | [],[],_,_=>trivial
 | [],k :: ks,h,_=>by simp at h
 | v :: M,[],h,_=>by simp at h
 | v :: M,k :: ks,h,hg=>by
  refine ⟨?_,zF M ks (by simpa using h) fun i hi=>?_⟩
  ·have:=hg 0 (by simp)
   simp only [List.getD_cons_zero] at this
   simp only [jT,this]
   refine ⟨?_,?_⟩
   ·rw [List.take_of_length_le (Nat.le_refl _)]
    simp [ol,Go.Pv.bl,bu]
   simp [ol,bb,br]
  have:=hg (i + 1) (by simp; omega)
  simpa using this
theorem jL {S s:St} {κ N:Nat} {G O:List PV} {M:List (List Int)} {q:Nat} (hq:M.length=q) (hn:S.n=s.n) (hS:S.H = .own (bE G) :: .own (bE O) :: .own (rws N q) :: tl M)
  (hκ:κ ≠ 0∧κ ≠ 1∧(κ=2∨q + 3≤κ)) (h0:aq s.H 0 = .own (bE G)) (h1:aq s.H 1 = .own (bE O)) (h2:aq s.H κ = .own (rws N q))
  (h3:∀ i,i < q→aq s.H (i + 3) = .own (ol (M.getD i []))) (hsl:jY (0 :: 1 :: κ :: List.range' 3 q) S.sl s):Le (0 :: 1 :: κ :: List.range' 3 q) S s:=by
 subst hq
 refine ⟨hn,?_,?_,hsl⟩
 ·refine List.nodup_cons.2 ⟨?_,List.nodup_cons.2 ⟨?_,List.nodup_cons.2 ⟨?_,List.nodup_range'⟩⟩⟩
  ·simp only [List.mem_cons,List.mem_range'_1]; omega
  ·simp only [List.mem_cons,List.mem_range'_1]; omega
  simp only [List.mem_cons,List.mem_range'_1]; omega
 rw [hS]
 have pur:∀ (l:List PV),(bE l).map (Go.Pv.bl (0 :: 1 :: κ :: List.range' 3 M.length))=(bE l).take (bE l).length∧(bE l).all (bb (0 :: 1 :: κ :: List.range' 3 M.length).length)=true:=fun l=>by
  rw [kT,List.take_of_length_le (Nat.le_refl _)]
  exact ⟨rfl,lX _ _⟩
 refine ⟨?_,?_,?_,?_⟩
 ·simp only [jT,h0]; exact pur G
 ·simp only [jT,h1]; exact pur O
 ·simp only [jT,h2]
  refine ⟨?_,?_⟩
  ·rw [List.take_of_length_le (Nat.le_refl _)]
   refine List.ext_getElem (by simp) fun i hi1 hi2=>?_
   have hi:i < M.length:=by simpa [dW] using hi2
   simp [rws,qI,Go.Pv.bl,bu,List.getD,List.getElem?_range' hi,Nat.add_comm]
  rw [List.all_eq_true]
  intro x hx
  simp only [rws,qI,List.mem_map,List.mem_range'] at hx
  obtain ⟨q,⟨j,hj,rfl⟩,rfl⟩:=hx
  simp [bb,br]
  omega
 refine zF M _ (by simp) fun i hi=>?_
 have:(List.range' 3 M.length).getD i 0=i + 3:=by simp [List.getD,List.getElem?_range' hi,Nat.add_comm]
 rw [this]
 exact h3 i hi
end
open Go.RowKit
def b8 (d N q:Nat):List AV:=(List.range q).map fun i=>.sl (i + d) 0 N
theorem bt (d N q:Nat):(b8 d N q).length=q:=by simp [b8]
theorem lz {d N q a:Nat} (h:a < q) (x:AV):(b8 d N q).getD a x = .sl (a + d) 0 N:=by
 simp [b8,List.getD,List.getElem?_map,List.getElem?_range h]
theorem k6 {d N q k:Nat} (h:k=q):(b8 d N q).take k=b8 d N q:=List.take_of_length_le (by rw [bt]; omega)
theorem zM {M:List (List Int)} {X:aw} {i:Nat} (h:i < M.length):aq (tl M++X) i = .own (ol (M.getD i [])):=by
 rw [aF (by rw [aD]; exact h),aV h]
theorem wL {L:Nat} {x:AV} (h:br L x=true):bu (List.range L) x=x:=by
 have hg:∀ k,k < L→(List.range L).getD k 0=k:=fun k hk=>by simp [List.getD,List.getElem?_range hk]
 cases x<;>simp only [br,decide_eq_true_eq] at h<;>first|rfl|(simp only [bu,hg _ h])
theorem z8 {L:Nat} {x:AV} (h:bb L x=true):Go.Pv.bl (List.range L) x=x:=by
 have hg:∀ k,k < L→(List.range L).getD k 0=k:=fun k hk=>by simp [List.getD,List.getElem?_range hk]
 have hm:∀ l:List AV,l.all (br L)=true→l.map (bu (List.range L))=l:=fun l hl=>by
  have:=List.map_congr_left (f:=bu (List.range L)) (g:=id) fun x hx=>wL ((List.all_eq_true.1 hl) x hx)
  rw [this,List.map_id]
 cases x with
 | agg l=>simp only [Go.Pv.bl]; rw [hm l h]
 | tup l=>simp only [Go.Pv.bl]; rw [hm l h]
 | cl f l=>simp only [Go.Pv.bl]; rw [hm l h]
 | yv k l vs =>
  simp only [bb,Bool.and_eq_true,decide_eq_true_eq] at h
  simp only [Go.Pv.bl]; rw [hm l h.2,hg _ h.1]
 | _=>simp only [Go.Pv.bl]; exact wL (by simpa only [bb] using h)
def ew (L:Nat):aL→Bool
 | .own c=>c.all (bb L)
 | .dx _ j=>decide (j < L)
 | _=>true
theorem tx {L:Nat} {H:aw} (hs:∀ b∈H,ew L b=true):∀ (H1:aw) (a:Nat),(∀ i,i < H1.length→aq H (a + i)=aq H1 i)→(∀ b∈H1,b∈H)→a + H1.length≤L→kp (List.range L) H (List.range' a H1.length) H1
 | [],a,_,_,_=>trivial
 | b :: r,a,h,hm,hl=>by
  rw [List.length_cons] at hl ⊢
  rw [List.range'_succ]
  refine ⟨?_,tx hs r (a + 1) (fun i hi=>?_) (fun x hx=>hm x (by simp [hx])) (by omega)⟩
  ·have h0:=h 0 (by simp)
   simp only [aq,Nat.add_zero] at h0
   have hb:=hs b (hm b (by simp))
   cases b with
   | own c =>
    simp only [jT,h0,List.length_range]
    refine ⟨?_,hb⟩
    rw [List.take_of_length_le (Nat.le_refl _)]
    have:=List.map_congr_left (f:=Go.Pv.bl (List.range L)) (g:=id) fun x hx=>z8 ((List.all_eq_true.1 hb) x hx)
    rw [this,List.map_id]
   | dx i j =>
    simp only [ew,decide_eq_true_eq] at hb
    simp only [jT,h0,List.length_range]
    refine ⟨?_,hb⟩
    simp [List.getD,List.getElem?_range hb]
   | dead=>trivial
   | _=>simp only [jT,h0]
  have:=h (i + 1) (by simp; omega)
  rw [show a + 1 + i=a + (i + 1) by omega,this]; rfl
theorem tm {L:Nat} {s:St} : ∀ {l:List (Nat × AV)},(∀ p∈l,s.get p.1=p.2∧bb L p.2=true)→jY (List.range L) l s
 | [],_=>trivial
 | (t,x) :: r,h=>by
  obtain ⟨h1,h2⟩:=h (t,x) (by simp)
  refine ⟨by rw [z8 h2]; exact h1,by rw [List.length_range]; exact h2,tm fun p hp=>h p (by simp [hp])⟩
theorem nE {S s:St} (hn:S.n=s.n) (hH:S.H=s.H) (hs:∀ b∈s.H,ew s.H.length b=true) (hsl:∀ p∈S.sl,s.get p.1=p.2∧bb s.H.length p.2=true):Le (List.range s.H.length) S s:=by
 refine ⟨hn,List.nodup_range,?_,tm hsl⟩
 rw [hH]
 have:=tx hs s.H 0 (fun i _=>by rw [Nat.zero_add]) (fun b hb=>hb) (by omega)
 rwa [← List.range_eq_range'] at this
theorem qy (L:Nat) (M:List (List Int)):∀ b∈tl M,ew L b=true:=fun b hb=>by
 obtain ⟨v,_,rfl⟩:=List.mem_map.1 hb
 exact fW _ _
theorem jk {d N q L:Nat} (h:q + d≤L):(b8 d N q).all (bb L)=true:=by
 rw [List.all_eq_true]
 intro x hx
 obtain ⟨i,hi,rfl⟩:=List.mem_map.1 hx
 have:=List.mem_range.1 hi
 simp [bb,br]; omega
end Go.Pv
namespace Go.Proofs.YtjlmpmidchddjaaDoor
open Go.Pv
def dP (p:Nat) (a:Int):Int:=a ^ (p - 2) % (p:Int)
def ya (p:Nat) (k:Int) (r b:List Int) (j:Nat):Int:=(r.getD j 0 - k * b.getD j 0) % (p:Int)
def AM (p:Nat) (k:Int) (r b:List Int):List Int:=cO (ya p k r b) 0 r.length r
def mU (p:Nat) (out:List (List Int)) (at' : List Int) (r:List Int):Nat→List Int
 | 0=>r
 | i + 1=>if (mU p out at' r i).getD (at'.getD i 0).toNat 0=0 then mU p out at' r i else AM p ((mU p out at' r i).getD (at'.getD i 0).toNat 0) (mU p out at' r i) (out.getD i [])
def FC (r:List Int):Option Nat:=bO (fun j=>decide (¬ r.getD j 0=0)) r.length
def Ai (p:Nat) (k:Int) (r:List Int) (j:Nat):Int:=r.getD j 0 * k % (p:Int)
def Ap (p:Nat) (k:Int) (r:List Int):List Int:=cO (Ai p k r) 0 r.length r
def uA (p:Nat) (j:Nat) (r b:List Int):List Int:=if b.getD j 0=0 then b else AM p (b.getD j 0) b r
def fw (p:Nat) (j:Nat) (r:List Int) (out:List (List Int)) (i:Nat):List (List Int):=(List.range out.length).map fun t=>if t < i then uA p j r (out.getD t []) else out.getD t []
def oX (p:Nat) (S:List (List Int) × List Int) (r:List Int):List (List Int) × List Int:=
 match FC (mU p S.1 S.2 r S.1.length) with
 | none=>S
 | some j=>(fw p j (Ap p (dP p ((mU p S.1 S.2 r S.1.length).getD j 0)) (mU p S.1 S.2 r S.1.length)) S.1 S.1.length++[Ap p (dP p ((mU p S.1 S.2 r S.1.length).getD j 0)) (mU p S.1 S.2 r S.1.length)],S.2++[(j:Int)])
def cA (p:Nat) (rows:List (List Int)):Nat→List (List Int) × List Int
 | 0=>([],[])
 | k + 1=>oX p (cA p rows k) (rows.getD k [])
def pk (n:Nat) (m:List (List Int)) (i:Nat):List Int:=m.getD i []++(List.replicate n 0).set i 1
def exts (n:Nat) (m:List (List Int)) (i:Nat):List (List Int):=(List.range i).map (pk n m)
def fT (n:Nat) (S:List (List Int) × List Int):Nat→List (List Int)
 | 0=>[]
 | i + 1=>if (n:Int)≤S.2.getD i 0 then fT n S i++[(S.1.getD i []).drop n] else fT n S i
def dX (p:Nat) (m:List (List Int)):List (List Int):=fT m.length (cA p (exts m.length m m.length) m.length) (cA p (exts m.length m m.length) m.length).1.length
def iF (p:Nat) (b w:List Int):Nat→Int
 | 0=>0
 | k + 1=>(iF p b w k + b.getD k 0 * w.getD k 0) % (p:Int)
def G5 (p:Nat) (m:List (List Int)) (w:List Int) (j:Nat):Int:=iF p (m.getD j []) w w.length
def qv (p:Nat) (m:List (List Int)) (w:List Int):List Int:=(List.range m.length).map (G5 p m w)
def iQ (p:Nat) (m:List (List Int)) (at' : List Int) (w:List Int):List Int:=at'.map fun c=>(qv p m w).getD c.toNat 0
def fp (p:Nat) (m:List (List Int)) (s:List (List Int)) (at' : List Int) (i:Nat):List (List Int):=(List.range i).map fun t=>iQ p m at' (s.getD t [])
def yd (p:Nat) (v:Nat) (a:List (List Int)) (i:Nat):List Int:=(a.getD i []).set i (((a.getD i []).getD i 0 - (v:Int)) % (p:Int))
def jV (p:Nat) (v:Nat) (a:List (List Int)) (i:Nat):List (List Int):=(List.range i).map (yd p v a)
def Ek (p:Nat) (x:Int) (w b:List Int) (j:Nat):Int:=(w.getD j 0 + x * b.getD j 0) % (p:Int)
def FQ (p:Nat) (x:Int) (w b:List Int):List Int:=cO (Ek p x w b) 0 w.length w
def qt (p W:Nat) (s:List (List Int)) (v:List Int):Nat→List Int
 | 0=>List.replicate W 0
 | i + 1=>FQ p (v.getD i 0) (qt p W s v i) (s.getD i [])
def uP (p:Nat) (s:List (List Int)) (v:List Int):List Int:=qt p (s.getD 0 []).length s v v.length
def iC (p : Nat) (s a : List (List Int)) : Nat → Int → Nat → List (List (List Int)) → List (List (List Int))
  | 0, _, _, out => out
  | f + 1, left, v, out => if v < p ∧ 0 < left then
      (if dX p (jV p v a s.length) = [] then iC p s a f left (v + 1) out
       else iC p s a f (left - (dX p (jV p v a s.length)).length) (v + 1) (out ++ [(dX p (jV p v a s.length)).map (uP p s)]))
    else out
def gx (p:Nat) (s m:List (List Int)):List (List (List Int)):=
 if s.length=1 then [s] else iC p (cA p s s.length).1 (fp p m (cA p s s.length).1 (cA p s s.length).2 (cA p s s.length).1.length) p (cA p s s.length).1.length 0 []
def cQ (p:Nat) (t:List (List (List Int))) (start:List (List (List Int))):Nat→List (List (List Int))
 | 0=>start
 | i + 1=>(cQ p t start i).flatMap fun s=>gx p s (t.getD i [])
theorem uX {p a b c d:Int} (h1:a % p=b % p) (h2:c % p=d % p):a * c % p=b * d % p:=by
 rw [Int.mul_emod,h1,h2,← Int.mul_emod]
theorem rD {p a b:Int} (h1:a % p=b % p):∀ n:Nat,a ^ n % p=b ^ n % p
 | 0=>by rw [Int.pow_zero,Int.pow_zero]
 | n + 1=>by rw [Int.pow_succ,Int.pow_succ]; exact uX (rD h1 n) h1
theorem qo (p a:Int):a % p % p=a % p:=Int.emod_emod_of_dvd a (Int.dvd_refl p)
theorem jj {p:Nat} (hp:p≤1000000) {a b:Int} (h1:0≤a) (h2:a < p) (h3:0≤b) (h4:b < p):0≤a * b∧a * b≤1000000000000:=
 ⟨Int.mul_nonneg h1 h3,Int.le_trans (Int.mul_le_mul (show a≤1000000 by omega) (show b≤1000000 by omega) h3 (by omega)) (by omega)⟩
theorem AA {p:Int} {o a:Int} (n:Nat) (h:n % 2=1):(o * a % p) * (a * a % p) ^ (n / 2) % p=o * a ^ n % p:=by
 have e:a ^ n=a * (a * a) ^ (n / 2):=by
  have:n=1 + 2 * (n / 2):=by omega
  conv=>lhs; rw [this,Int.pow_add,Int.pow_mul]
  rw [show a ^ 2=a * a from by rw [Int.pow_succ,Int.pow_succ,Int.pow_zero,Int.one_mul],Int.pow_succ,Int.pow_zero,Int.one_mul]
 rw [e,← Int.mul_assoc]
 exact uX (qo _ _) (rD (qo _ _) _)
theorem xu {p:Int} {o a:Int} (n:Nat) (h:n % 2=0):o * (a * a % p) ^ (n / 2) % p=o * a ^ n % p:=by
 have e:a ^ n=(a * a) ^ (n / 2):=by
  have:n=2 * (n / 2):=by omega
  conv=>lhs; rw [this,Int.pow_mul]
  rw [show a ^ 2=a * a from by rw [Int.pow_succ,Int.pow_succ,Int.pow_zero,Int.one_mul]]
 rw [e]
 exact uX rfl (rD (qo _ _) _)
theorem GY {p:Nat} (hp:2≤p) (hp2:p≤1000000) {a0:Int} (ha:0≤a0) (ha2:a0≤1000000000000) (n0:Nat) (hn:n0≤1000000):cL Tryd.prog 80 [.int .i64 p,.int .i64 a0,.int .i64 n0] (.int .i64 (a0 ^ n0 % (p:Int))):=by
 have htm:Int.tmod a0 p=a0 % p:=Int.tmod_eq_emod_of_nonneg ha
 have hr0:=bC (p:=p) (by omega) a0
 refine aM ae Tryd.func80 rfl (by kernel_rfl) (by rw [Tryd.ntmps80]; exact Nat.le_add_left 3 _) ?_; rw [Tryd.ntmps80]
 refine qm ?_
 refine ab fun K hK=>aa ae ?_
 simp only [ak,fl,gp,aj,simprocAttr]
 refine af trivial (hK _ ?_)<;>clear hK K
 refine qa (qm ?_)
 refine ab fun K hK=>aa ae ?_
 simp only [ak,fl,gp,aj,simprocAttr]
 refine af trivial (hK _ ?_)<;>clear hK K
 refine qa (qm (qm ?_))
 refine ab fun K hK=>aa ae ?_
 simp only [ak,fl,gp,aj,simprocAttr,htm]
 refine af ?_ (hK _ ?_)<;>clear hK K
 ·omega
 refine qa (ql ?_)
 refine aA (ι:=Int × Nat × Int) (fun x=>⟨29,[(0,.p (.int .i64 p)),(1,.p (.int .i64 x.1)),(2,.p (.int .i64 x.2.1)),(7,.p (.int .i64 x.2.2))],[]⟩) (fun x=>0≤x.1∧x.1 < p∧x.2.1≤1000000∧0≤x.2.2∧x.2.2 < p∧x.2.2 * x.1 ^ x.2.1 % (p:Int)=a0 ^ n0 % (p:Int)) (fun x=>x.2.1) (a0 % p,n0,1) ⟨hr0.1,hr0.2,hn,by simp,by simp; omega,by rw [Int.one_mul]; exact rD (qo _ _) _⟩ [] (by simp only [leq,bh,ak,fl,gp,aj,simprocAttr]) fun x hx=>?_
 obtain ⟨a,n,o⟩:=x
 obtain ⟨x1,x2,x3,x4,x5,x6⟩:=hx
 simp only at x1 x2 x3 x4 x5 x6
 have m1:=jj hp2 x4 x5 x1 x2
 have m2:=jj hp2 x1 x2 x1 x2
 have t1:Int.tmod (o * a) p=o * a % p:=Int.tmod_eq_emod_of_nonneg m1.1
 have t2:Int.tmod (a * a) p=a * a % p:=Int.tmod_eq_emod_of_nonneg m2.1
 have r1:=bC (p:=p) (by omega) (o * a)
 have r2:=bC (p:=p) (by omega) (a * a)
 refine qm (qm ?_)
 refine ab fun K hK=>aa ae ?_
 simp only [ak,fl,gp,aj,simprocAttr]
 refine af trivial (hK _ ?_)<;>clear hK K
 refine qa ?_
 refine an rfl (fun hC1=>?_) (fun hC1=>?_)
 ·(try simp only [aI] at hC1)
  have hn0:0 < n:=by omega
  have tn:Int.tmod (n:Int) 2=((n % 2:Nat):Int):=rfl
  have dn:Int.tdiv (n:Int) 2=((n / 2:Nat):Int):=rfl
  refine qh (qa (qm (ql (qm (qm ?_)))))
  refine ab fun K hK=>aa ae ?_
  simp only [ak,fl,gp,aj,simprocAttr,tn]
  refine af ?_ (hK _ ?_)<;>clear hK K
  ·first|exact trivial|omega|(simp only [ah] at *; omega)|(simp [ah] at *; omega)|simp_all
  refine qa ?_
  refine an rfl (fun hC2=>?_) (fun hC2=>?_)
  ·(try simp only [aI] at hC2)
   have hod:n % 2=1:=by omega
   refine ab fun K hK=>aa ae ?_
   simp only [ak,fl,gp,aj,simprocAttr,t1]
   refine af ?_ (hK _ ?_)<;>clear hK K
   ·simp only [ah]; omega
   refine qa ?_
   refine ab fun K hK=>aa ae ?_
   simp only [ak,fl,gp,aj,simprocAttr,t2]
   refine af ?_ (hK _ ?_)<;>clear hK K
   ·simp only [ah]; omega
   refine qd (qa ?_)
   refine ab fun K hK=>aa ae ?_
   simp only [ak,fl,gp,aj,simprocAttr,dn]
   refine af ?_ (hK _ ?_)<;>clear hK K
   ·first|exact trivial|omega|(simp only [ah] at *; omega)|(simp [ah] at *; omega)|simp_all
   refine qa ?_
   refine ⟨(a * a % p,n / 2,o * a % p),[],⟨r2.1,r2.2,by simp only; omega,r1.1,r1.2,by rw [← x6]; exact AA n hod⟩,by simp only; omega,by simp only [leq,bh,ak,fl,gp,aj,simprocAttr]⟩
  (try simp only [aI] at hC2)
  have hev:n % 2=0:=by omega
  refine qh (qa ?_)
  refine ab fun K hK=>aa ae ?_
  simp only [ak,fl,gp,aj,simprocAttr,t2]
  refine af ?_ (hK _ ?_)<;>clear hK K
  ·simp only [ah]; omega
  refine qd (qa ?_)
  refine ab fun K hK=>aa ae ?_
  simp only [ak,fl,gp,aj,simprocAttr,dn]
  refine af ?_ (hK _ ?_)<;>clear hK K
  ·first|exact trivial|omega|(simp only [ah] at *; omega)|(simp [ah] at *; omega)|simp_all
  refine qa ?_
  refine ⟨(a * a % p,n / 2,o),[],⟨r2.1,r2.2,by simp only; omega,x4,x5,by rw [← x6]; exact xu n hev⟩,by simp only; omega,by simp only [leq,bh,ak,fl,gp,aj,simprocAttr]⟩
 (try simp only [aI] at hC1)
 have hn0:n=0:=by omega
 subst hn0
 have e:o=a0 ^ n0 % (p:Int):=by
  rw [← x6,Int.pow_zero,Int.mul_one,Int.emod_eq_of_lt x4 x5]
 refine qj (qc (qc (qf (qa (qm ?_)))))
 refine ab fun K hK=>aa ae ?_
 simp only [ak,fl,gp,aj,simprocAttr]
 refine af trivial (hK _ ?_)<;>clear hK K
 refine qa (qk ?_)
 simp only [Tryd.results80,cy,ak,fl,gp,aj,simprocAttr]
 all_goals (rw [e])
theorem lC {p:Nat} (hp:2≤p) (a:Int):0≤dP p a∧dP p a < p:=bC (by omega) _
theorem th {p:Nat} (hp:2≤p) (hp2:p≤1000000) {a:Int} (ha:0≤a) (ha2:a≤1000000000000):cL Tryd.prog 46 [.int .i64 p,.int .i64 a] (.int .i64 (dP p a)):=by
 have e:(p:Int) - 2=((p - 2:Nat):Int):=by omega
 refine aM ae Tryd.func46 rfl (by kernel_rfl) (by rw [Tryd.ntmps46]; exact Nat.le_add_left 2 _) ?_; rw [Tryd.ntmps46]
 refine qm ?_
 refine ab fun K hK=>aa ae ?_
 simp only [ak,fl,gp,aj,simprocAttr]
 refine af trivial (hK _ ?_)<;>clear hK K
 refine qa (qm ?_)
 refine ab fun K hK=>aa ae ?_
 simp only [ak,fl,gp,aj,simprocAttr,e]
 refine ao ?_ (al (GY hp hp2 ha ha2 (p - 2) (by omega)) rfl rfl rfl (by simp only [ay,Nat.reduceLT]) (by repeat (first|exact trivial|constructor)) (aa ae ?_))
 ·simp only [ah]; omega
 simp only [ak,fl,gp,aj,simprocAttr,e]
 refine af ?_ (hK _ ?_)<;>clear hK K
 ·first|exact trivial|omega|(simp only [ah] at *; omega)|(simp [ah] at *; omega)|simp_all
 refine qa (qk ?_)
 simp only [Tryd.results46,cy,ak,fl,gp,aj,simprocAttr]
 all_goals ((first|exact rfl|exact ⟨rfl,rfl⟩|exact ⟨rfl,rfl,rfl⟩|exact ⟨trivial,rfl⟩|exact ⟨Nat.le_refl _,rfl⟩|trivial|(simp; done)))
theorem xe (x:Int):cL Tryd.prog 103 [.int .i64 x] (.bool (decide (¬ x=0))):=by
 refine aM ae Tryd.func103 rfl (by kernel_rfl) (by rw [Tryd.ntmps103]; exact Nat.le_add_left 1 _) ?_; rw [Tryd.ntmps103]
 refine qm ?_
 refine ab fun K hK=>aa ae ?_
 simp only [ak,fl,gp,aj,simprocAttr]
 refine af trivial (hK _ ?_)<;>clear hK K
 refine qa (qm ?_)
 refine ab fun K hK=>aa ae ?_
 simp only [ak,fl,gp,aj,simprocAttr]
 refine af trivial (hK _ ?_)<;>clear hK K
 refine qa (qk ?_)
 simp only [Tryd.results103,cy,ak,fl,gp,aj,simprocAttr]
 all_goals ((first|exact rfl|exact ⟨rfl,rfl⟩|exact ⟨rfl,rfl,rfl⟩|exact ⟨trivial,rfl⟩|exact ⟨Nat.le_refl _,rfl⟩|trivial|(simp; done)))
def jU (p:Nat):Bool:=decide (1 < p) && (List.range p).all fun d=>decide (d < 2) || decide (¬ p % d=0)
theorem Bf {p:Nat} (hp:p≤1000000):cL Tryd.prog 76 [.int .i64 p] (.bool (jU p)):=by
 refine aM ae Tryd.func76 rfl (by kernel_rfl) (by rw [Tryd.ntmps76]; exact Nat.le_add_left 1 _) ?_; rw [Tryd.ntmps76]
 refine qm ?_
 refine ab fun K hK=>aa ae ?_
 simp only [ak,fl,gp,aj,simprocAttr]
 refine af trivial (hK _ ?_)<;>clear hK K
 refine qa (qm (qm ?_))
 refine ab fun K hK=>aa ae ?_
 simp only [ak,fl,gp,aj,simprocAttr]
 refine af trivial (hK _ ?_)<;>clear hK K
 refine qa (ql ?_)
 refine aA (ι:=Nat) (fun d=>⟨17,[(0,.p (.int .i64 p)),(3,.p (.int .i64 d))],[]⟩) (fun d=>2≤d∧d≤p + 2∧∀ t,2≤t→t < d→¬ p % t=0) (fun d=>p + 2 - d) 2 ⟨Nat.le_refl _,by omega,fun t h1 h2=>by omega⟩ [] (by simp only [leq,bh,ak,fl,gp,aj,simprocAttr]) fun d hd=>?_
 obtain ⟨d1,d2,d3⟩:=hd
 have tn:Int.tmod (p:Int) (d:Int)=((p % d:Nat):Int):=rfl
 have dd:(d:Int) * (d:Int)=((d * d:Nat):Int):=by simp
 have ddl:d * d≤1000002 * 1000002:=Nat.mul_le_mul (by omega) (by omega)
 refine qm (qm ?_)
 refine ab fun K hK=>aa ae ?_
 simp only [ak,fl,gp,aj,simprocAttr,dd]
 refine af ?_ (hK _ ?_)<;>clear hK K
 ·simp only [ah]; omega
 refine qa ?_
 refine an rfl (fun hC1=>?_) (fun hC1=>?_)
 ·(try simp only [aI] at hC1)
  have hlt:d * d≤p:=by omega
  have hdp:2 * d≤d * d:=Nat.mul_le_mul_right d d1
  refine qh (qa (qm (ql (qm ?_))))
  refine ab fun K hK=>aa ae ?_
  simp only [ak,fl,gp,aj,simprocAttr,tn]
  refine af ?_ (hK _ ?_)<;>clear hK K
  ·omega
  refine qa ?_
  refine an rfl (fun hC2=>?_) (fun hC2=>?_)
  ·(try simp only [aI] at hC2)
   refine qm ?_
   refine ab fun K hK=>aa ae ?_
   simp only [ak,fl,gp,aj,simprocAttr]
   refine af trivial (hK _ ?_)<;>clear hK K
   refine qa (qk (qe (qb (qb (qe (qb ?_))))))
   simp only [Tryd.results76,cy,ak,fl,gp,aj,simprocAttr]
   have hz:p % d=0:=by omega
   have:jU p=false:=by
    unfold jU
    rw [Bool.and_eq_false_iff]
    refine .inr (List.all_eq_false.2 ⟨d,List.mem_range.2 (by omega),?_⟩)
    simp [hz]; omega
   rw [this]
  (try simp only [aI] at hC2)
  refine qh (qd (qa ?_))
  refine ab fun K hK=>aa ae ?_
  simp only [ak,fl,gp,aj,simprocAttr]
  refine af ?_ (hK _ ?_)<;>clear hK K
  ·first|exact trivial|omega|(simp only [ah] at *; omega)|(simp [ah] at *; omega)|simp_all
  refine qa ?_
  refine ⟨d + 1,[],⟨by omega,by omega,fun t h1 h2=>?_⟩,by omega,by simp only [leq,bh,ak,fl,gp,aj,simprocAttr]⟩
  by_cases e:t=d
  ·rw [e]; omega
  exact d3 t h1 (by omega)
 (try simp only [aI] at hC1)
 have hgt:p < d * d:=by omega
 refine qj (qc (qc (qf (qa (qm ?_)))))
 refine ab fun K hK=>aa ae ?_
 simp only [ak,fl,gp,aj,simprocAttr]
 refine af trivial (hK _ ?_)<;>clear hK K
 refine qa (qk ?_)
 simp only [Tryd.results76,cy,ak,fl,gp,aj,simprocAttr]
 have:jU p=decide ((1:Int) < (p:Int)):=by
  unfold jU
  by_cases h1:1 < p
  ·rw [decide_eq_true h1,Bool.true_and,decide_eq_true (show (1:Int) < (p:Int) by omega),List.all_eq_true]
   intro t ht
   have ht:=List.mem_range.1 ht
   by_cases h2:t < 2
   ·simp [h2]
   simp only [Bool.or_eq_true,decide_eq_true_eq]
   refine .inr fun hz=>?_
   by_cases h3:t < d
   ·exact d3 t (by omega) h3 hz
   have h4:t * (p / t)=p:=by have:=Nat.div_add_mod p t; omega
   have h5:p / t < d:=by
    refine Nat.lt_of_not_le fun h=>?_
    have:d * d≤t * (p / t):=Nat.mul_le_mul (by omega) h
    omega
   have h6:2≤p / t:=by
    have h7:0 < p / t:=Nat.div_pos (by omega) (by omega)
    have h8:¬ p / t=1:=fun h=>by rw [h,Nat.mul_one] at h4; omega
    omega
   refine d3 (p / t) h6 h5 ?_
   have:p=(p / t) * t:=by rw [Nat.mul_comm]; omega
   rw [this,Nat.mul_div_cancel _ (by omega)]
   exact Nat.mul_mod_right _ _
  rw [decide_eq_false h1,Bool.false_and,decide_eq_false (show ¬ (1:Int) < (p:Int) by omega)]
 rw [this]
end Go.Proofs.YtjlmpmidchddjaaDoor
namespace Go.Pv
open Go.RowKit
theorem A2 {π:List Nat} {H:aw} : ∀ {ks:List Nat} {H1:aw},ks.length=H1.length→(∀ j,j < H1.length→jT π H (ks.getD j 0) (aq H1 j))→kp π H ks H1
 | [],[],_,_=>trivial
 | [],b :: r,h,_=>by simp at h
 | k :: ks,[],h,_=>by simp at h
 | k :: ks,b :: r,h,hp=>by
  refine ⟨by simpa [aq] using hp 0 (by simp),A2 (by simpa using h) fun j hj=>?_⟩
  simpa [aq] using hp (j + 1) (by simp; omega)
theorem mG {π:List Nat} {S s:St} (h1:S.n=s.n) (h2:π.Nodup) (h3:π.length=S.H.length) (h4:∀ j,j < S.H.length→jT π s.H (π.getD j 0) (aq S.H j)) (h5:jY π S.sl s):Le π S s:=⟨h1,h2,A2 h3 h4,h5⟩
theorem iD {π:List Nat} {H:aw} {k:Nat} {v:List Int} (h:aq H k = .own (ol v)):jT π H k (.own (ol v)):=by
 simp only [jT,h]
 exact ⟨by rw [List.take_of_length_le (Nat.le_refl _),oq],fW _ _⟩
theorem rK {π:List Nat} {H:aw} {k:Nat} {l:List PV} (h:aq H k = .own (bE l)):jT π H k (.own (bE l)):=by
 simp only [jT,h]
 exact ⟨by rw [List.take_of_length_le (Nat.le_refl _),kT],lX _ _⟩
theorem vR {π:List Nat} {H:aw} {k i j j' : Nat} (h:aq H k = .dx i j') (hj:j < π.length) (e:π.getD j 0=j'):jT π H k (.dx i j):=by
 simp only [jT]
 rw [e]
 exact ⟨h,hj⟩
theorem jE {π:List Nat} {H:aw} {k d d' W q:Nat} (h:aq H k = .own (b8 d' W q)) (hp:∀ i,i < q→d + i < π.length∧π.getD (d + i) 0=d' + i):jT π H k (.own (b8 d W q)):=by
 simp only [jT,h]
 refine ⟨?_,?_⟩
 ·rw [bt,k6 rfl]
  refine List.ext_getElem (by simp [bt]) fun i h1 h2=>?_
  have hi:i < q:=by simpa [bt] using h2
  simp only [b8,List.getElem_map,List.getElem_range,Go.Pv.bl,bu]
  rw [Nat.add_comm i d,(hp i hi).2,Nat.add_comm]
 rw [List.all_eq_true]
 intro x hx
 obtain ⟨i,hi,rfl⟩:=List.mem_map.1 hx
 have:=(hp i (List.mem_range.1 hi)).1
 simp [bb,br]; omega
theorem kH {H:aw} {k:Nat} {c:List AV} (h:aq H k = .own c):k < H.length:=by
 refine Nat.lt_of_not_le fun hl=>?_
 have:∀ (H:aw) (k:Nat),H.length≤k→aq H k = .dead:=by
  intro H
  induction H with
  | nil=>intro k _; simp [aq]
  | cons b r ih =>
   intro k hk
   cases k with
   | zero=>simp at hk
   | succ k=>simp only [aq]; exact ih k (by simpa using hk)
 rw [this H k hl] at h
 cases h
section
variable {P:Program} {c:Code} {Q:Exit→St→Prop}
theorem v7 {d q:Nat} {M:List (List Int)} : ∀ (k:Nat) (s:St),k≤q→(∀ i,i < q→aq s.H (d + i) = .own (ol (M.getD i []))) →
  (∀ H',H'.length=s.H.length→(∀ j,aq H' j=if d≤j∧j < d + k then .fro (il (M.getD (j - d) [])) else aq s.H j)→Holds P c Q { s with H:=H' })→Holds P c Q s
 | 0,s,_,_,h=>by
  have:=h s.H rfl fun j=>by rw [if_neg (by omega)]
  cases s; exact this
 | k + 1,s,hk,hg,h=>by
  refine v7 k s (by omega) hg fun H' h1 h2=>?_
  have e1:aq H' (d + k) = .own (ol (M.getD k [])):=by rw [h2,if_neg (by omega)]; exact hg k (by omega)
  refine cJ (d + k) (s:={ s with H:=H' }) e1 (jP _) ?_
  have hl:=kH e1
  refine h (aE H' (d + k) (.fro (il (M.getD k [])))) ?_ fun j=>?_
  ·rw [cZ,List.length_set,h1]
  rw [aT]
  by_cases e:j=d + k
  ·subst e
   rw [if_pos ⟨rfl,hl⟩,if_pos (by omega),Nat.add_sub_cancel_left]
  rw [if_neg (fun h=>e h.1),h2]
  by_cases h3:d≤j∧j < d + k
  ·rw [if_pos h3,if_pos (by omega)]
  rw [if_neg h3,if_neg (by omega)]
theorem wN {κ d q N:Nat} {M:List (List Int)} (hq:M.length=q) (hN:∀ v∈M,v.length=N):∀ (k:Nat) (s:St),k≤q→κ < s.H.length→(κ < d∨d + q≤κ)→aq s.H κ = .own (b8 d N q)→(∀ i,i < q→aq s.H (d + i) = .fro (il (M.getD i []))) →
  (∀ H',H'.length=s.H.length→aq H' κ = .own (bE (ll (M.take k))++(b8 d N q).drop k)→(∀ j,j ≠ κ→aq H' j=aq s.H j)→Holds P c Q { s with H:=H' })→Holds P c Q s
 | 0,s,_,_,_,hk,_,h=>by
  have:=h s.H rfl (by simpa [bE,ll] using hk) fun j _=>rfl
  cases s; exact this
 | k + 1,s,hk,hl,hd,h0,hg,h=>by
  refine wN hq hN k s (by omega) hl hd h0 hg fun H' h1 h2 h3=>?_
  have hkq:k < q:=by omega
  have hvl:(M.getD k []).length=N:=hN _ (by simp [List.getD,List.getElem?_eq_getElem (show k < M.length by omega)])
  have e1:aq H' (d + k) = .fro (il (M.getD k [])):=by rw [h3 _ (by omega)]; exact hg k hkq
  have ll1:(bE (ll (M.take k))).length=k:=by rw [bB,au,List.length_take]; omega
  have hj:(bE (ll (M.take k))++(b8 d N q).drop k)[k]? = some (.sl (k + d) 0 N):=by
   rw [List.getElem?_append_right (by omega),ll1,Nat.sub_self,List.getElem?_drop]
   simp [b8,List.getElem?_map,List.getElem?_range hkq]
  have he:((il (M.getD k [])).drop 0).take N=il (M.getD k []):=by
   rw [List.drop_zero,List.take_of_length_le (by rw [aJ]; omega)]
  have hp:dB H' (.sl (k + d) 0 N)=some (0 + N≤(il (M.getD k [])).length∧(((il (M.getD k [])).drop 0).take N).all PV.one=true,.list (((il (M.getD k [])).drop 0).take N),true):=by
   rw [Nat.add_comm k d]
   simp only [dB,e1]
  rw [he] at hp
  refine n8 (s:={ s with H:=H' }) κ k h2 hj hp ⟨by rw [aJ]; omega,gL _⟩ ?_
  have e2:(bE (ll (M.take k))++(b8 d N q).drop k).set k (.p (.list (il (M.getD k []))))=bE (ll (M.take (k + 1)))++(b8 d N q).drop (k + 1):=by
   rw [List.set_append_right _ _ (by omega),ll1,Nat.sub_self,List.drop_eq_getElem_cons (by rw [bt]; exact hkq),List.set_cons_zero,List.take_succ_eq_append_getElem (show k < M.length by omega),← cB,← kQ,List.append_assoc]
   simp [List.getD,List.getElem?_eq_getElem (show k < M.length by omega)]
  rw [e2]
  refine h (aE H' κ (.own (bE (ll (M.take (k + 1)))++(b8 d N q).drop (k + 1)))) ?_ ?_ fun j hj=>?_
  ·rw [cZ,List.length_set,h1]
  ·rw [aT,if_pos ⟨rfl,by omega⟩]
  rw [aT,if_neg (fun h=>hj h.1)]; exact h3 j hj
theorem sJ {s:St} (t κ d q:Nat) {N:Nat} {M:List (List Int)} (hq:M.length=q) (hN:∀ v∈M,v.length=N) (h1:s.get t = .sl κ 0 q) (hκ:κ < d∨d + q≤κ) (h2:aq s.H κ = .own (b8 d N q)) (h3:∀ i,i < q→aq s.H (d + i) = .own (ol (M.getD i [])))
  (h:∀ H',H'.length=s.H.length→(∀ j,j ≠ κ→¬ (d≤j∧j < d + q)→aq H' j=aq s.H j)→(∀ j,aq H' j=aq s.H j∨∃ c,aq H' j = .fro c)→Holds P c Q { s with sl:=(t,.p (.list (ll M))) :: s.sl,H:=H' }):Holds P c Q s:=by
 refine v7 (d:=d) (q:=q) (M:=M) q s (Nat.le_refl _) h3 fun H1 a1 a2=>?_
 have b1:aq H1 κ = .own (b8 d N q):=by rw [a2,if_neg (by omega)]; exact h2
 refine wN (s:={ s with H:=H1 }) hq hN q (Nat.le_refl _) (kH b1) hκ b1 (fun i hi=>by rw [a2,if_pos (by omega),Nat.add_sub_cancel_left]) fun H2 c1 c2 c3=>?_
 have c2' : aq H2 κ = .own (bE (ll M)):=by
  rw [c2,List.take_of_length_le (by omega),List.drop_of_length_le (by rw [bt]; omega),List.append_nil]
 refine cJ (s:={ s with H:=H2 }) κ c2' (jv _) ?_
 have hl:=kH c2'
 have e:aq (aE H2 κ (.fro (ll M))) κ = .fro (ll M):=by rw [aT,if_pos ⟨rfl,hl⟩]
 refine lj t (s:={ s with H:=aE H2 κ (.fro (ll M)) }) (p:=0 + q≤(ll M).length∧(((ll M).drop 0).take q).all PV.one=true) (pv:=.list (((ll M).drop 0).take q)) ?_ ?_ ?_
 ·show dK _ (s.get t)=_
  rw [h1]
  simp only [dK,dB,e]
 ·rw [List.drop_zero,List.take_of_length_le (by rw [au]; omega)]
  exact ⟨by rw [au]; omega,yT M⟩
 rw [List.drop_zero,List.take_of_length_le (by rw [au]; omega)]
 refine h _ ?_ (fun j j1 j2=>?_) fun j=>?_
 ·rw [cZ,List.length_set,c1,a1]
 ·rw [aT,if_neg (fun h=>j1 h.1),c3 j j1,a2,if_neg j2]
 by_cases j1:j=κ
 ·right; exact ⟨_,by rw [j1]; exact e⟩
 rw [aT,if_neg (fun h=>j1 h.1),c3 j j1,a2]
 split
 ·exact .inr ⟨_,rfl⟩
 exact .inl rfl
theorem lF {s:St} (t κ d q:Nat) {N:Nat} {M:List (List Int)} (hq:M.length=q) (hN:∀ v∈M,v.length=N) (h1:s.get t = .sl κ 0 q) (hκ:κ < d∨d + q≤κ) (h2:aq s.H κ = .own (b8 d N q)) (h3:∀ i,i < q→aq s.H (d + i) = .own (ol (M.getD i [])))
  (h:∀ H',H'.length=s.H.length→(∀ j,j ≠ κ→¬ (d≤j∧j < d + q)→aq H' j=aq s.H j)→Holds P c Q { s with sl:=(t,.p (.list (ll M))) :: s.sl,H:=H' }):Holds P c Q s:=
 sJ t κ d q hq hN h1 hκ h2 h3 fun H' a1 a2 _=>h H' a1 a2
end
theorem gO (a b:aL) (H:aw) (k:Nat):aq (a :: b :: H) (k + 2)=aq H k:=rfl
theorem Am (a b x:aL) (H:aw) (k:Nat):aE (a :: b :: H) (k + 2) x=a :: b :: aE H k x:=rfl
theorem dC (a:aL) (H:aw) (k:Nat):aq (a :: H) (k + 1)=aq H k:=rfl
theorem rX (a x:aL) (H:aw) (k:Nat):aE (a :: H) (k + 1) x=a :: aE H k x:=rfl
theorem eJ {d q i:Nat} (h:i < q):(List.range' d q).getD i 0=d + i:=by
 simp [List.getD,List.getElem?_range' h]
theorem gb (d N q:Nat):b8 d N q++[.sl (q + d) 0 N]=b8 d N (q + 1):=by
 simp [b8,List.range_succ]
theorem uh (d N q:Nat):(b8 d N q).all bp=true:=by
 simp [b8,bp]
theorem F9 {X:aw} {n:Nat} (h:X.length=n) (a b c:aL):aq (X++[a]++[b]++[c]) (n + 1)=b:=by
 subst h
 rw [aF (by simp),show X.length + 1=(X++[a]).length by simp,aY (Nat.le_refl _),Nat.sub_self]; rfl
theorem GI {X:aw} {n:Nat} (h:X.length=n) (a b c:aL):aq (X++[a]++[b]++[c]) (n + 2)=c:=by
 subst h
 rw [show X.length + 2=(X++[a]++[b]).length by simp,aY (Nat.le_refl _),Nat.sub_self]; rfl
theorem ES {X:aw} {i:Nat} (h:i < X.length) (a b c:aL):aq (X++[a]++[b]++[c]) i=aq X i:=by
 rw [aF (by simp; omega),aF (by simp; omega),aF h]
theorem wk {S s:St} {κ0 κ1 d W q:Nat} {a:List Int} {M:List (List Int)} (hn:S.n=s.n) (hS:S.H = .own (b8 2 W q) :: .own (ol a) :: tl M) (hM:M.length=q) (hd:κ0 ≠ κ1∧(κ0 < d∨d + q≤κ0)∧(κ1 < d∨d + q≤κ1))
  (g0:aq s.H κ0 = .own (b8 d W q)) (g1:aq s.H κ1 = .own (ol a)) (g2:∀ i,i < q→aq s.H (d + i) = .own (ol (M.getD i []))) (hsl:jY (κ0 :: κ1 :: List.range' d q) S.sl s):Le (κ0 :: κ1 :: List.range' d q) S s:=by
 refine mG hn ?_ ?_ (fun j hj=>?_) hsl
 ·refine List.nodup_cons.2 ⟨?_,List.nodup_cons.2 ⟨?_,List.nodup_range'⟩⟩
  ·simp only [List.mem_cons,List.mem_range'_1]; omega
  simp only [List.mem_range'_1]; omega
 ·rw [hS]; simp [aD,hM]
 rw [hS] at hj ⊢
 match j,hj with
 | 0,_ =>
  refine jE g0 fun i hi=>⟨by simp; omega,?_⟩
  rw [Nat.add_comm 2 i]
  simp only [List.getD_cons_succ]
  exact eJ hi
 | 1,_=>exact iD g1
 | j + 2,hj =>
  have hjq:j < q:=by simpa [aD,hM] using hj
  simp only [List.getD_cons_succ,gO]
  rw [aV (by omega),eJ hjq]
  exact iD (g2 j hjq)
theorem As {S s:St} {κ0 d W q:Nat} {M:List (List Int)} (hn:S.n=s.n) (hS:S.H = .own (b8 1 W q) :: tl M) (hM:M.length=q) (hd:κ0 < d∨d + q≤κ0)
  (g0:aq s.H κ0 = .own (b8 d W q)) (g2:∀ i,i < q→aq s.H (d + i) = .own (ol (M.getD i []))) (hsl:jY (κ0 :: List.range' d q) S.sl s):Le (κ0 :: List.range' d q) S s:=by
 refine mG hn ?_ ?_ (fun j hj=>?_) hsl
 ·refine List.nodup_cons.2 ⟨?_,List.nodup_range'⟩
  simp only [List.mem_range'_1]; omega
 ·rw [hS]; simp [aD,hM]
 rw [hS] at hj ⊢
 match j,hj with
 | 0,_ =>
  refine jE g0 fun i hi=>⟨by simp; omega,?_⟩
  rw [Nat.add_comm 1 i]
  simp only [List.getD_cons_succ]
  exact eJ hi
 | j + 1,hj =>
  have hjq:j < q:=by simpa [aD,hM] using hj
  simp only [List.getD_cons_succ,dC]
  rw [aV (by omega),eJ hjq]
  exact iD (g2 j hjq)
theorem Gd {X:aw} {n:Nat} (h:X.length=n) (a b:aL):aq (X++[a]++[b]) (n + 1)=b:=by
 subst h
 rw [show X.length + 1=(X++[a]).length by simp,aY (Nat.le_refl _),Nat.sub_self]; rfl
theorem G3 {X:aw} {i:Nat} (h:i < X.length) (a b:aL):aq (X++[a]++[b]) i=aq X i:=by
 rw [aF (by simp; omega),aF h]
end Go.Pv
namespace Go.Proofs.YtjlmpmidchddjaaDoor
open Go.Pv
theorem we (v:List Int) (h0:v ≠ []) (hl:v.length≤1000000):C8 Tryd.prog 78 [.list (il v)] (.sl 0 0 v.length) [.own (ol v)]:=by
 have hp:0 < v.length:=List.length_pos_iff.2 h0
 refine uH ae Tryd.func78 rfl (by kernel_rfl) (by rw [Tryd.ntmps78]; exact Nat.le_add_left 1 _) ?_; rw [Tryd.ntmps78]
 refine qm ?_
 refine ab fun K hK=>aa ae ?_
 simp only [ak,fl,gp,aj,simprocAttr]
 refine af trivial (hK _ ?_)<;>clear hK K
 refine qa (qm (qm ?_))
 refine ab fun K hK=>aa ae ?_
 simp only [ak,fl,gp,aj,simprocAttr]
 refine af ?_ (hK _ ?_)<;>clear hK K
 ·simp [il,h0]
 refine qa ?_
 refine an rfl (fun hC1=>?_) (fun hC1=>?_)
 ·cases hC1
 (try simp only [aI] at hC1)
 refine qh (qa (qm ?_))
 refine ab fun K hK=>aa ae ?_
 simp only [ak,fl,gp,aj,simprocAttr]
 refine af ?_ (hK _ ?_)<;>clear hK K
 ·first|exact trivial|omega|(simp only [ah] at *; omega)|(simp [ah] at *; omega)|simp_all
 refine qa (qk ?_)
 simp only [Tryd.results78,o8,o6,ml,yX,je,ak,fl,gp,aj,simprocAttr]
 refine ⟨[0],rfl,rfl,rfl,by simp,⟨⟨?_,fW _ _⟩,trivial⟩,trivial⟩
 rw [oq,gi]
theorem nA {n e:Nat} {m:List Int} (h:GT n m n e):cL Tryd.prog 47 [gp n m] (.int .i64 (e:Nat)):=by
 have G:=h.2.2
 have T:=h.2.1
 have hb:=T.big
 have hel:=G.el
 refine aM ae Tryd.func47 rfl (by kernel_rfl) (by rw [Tryd.ntmps47]; exact Nat.le_add_left 1 _) ?_; rw [Tryd.ntmps47]
 refine qm ?_
 refine ab fun K hK=>aa ae ?_
 simp only [ak,fl,gp,aj,simprocAttr]
 refine af ?_ (hK _ ?_)<;>clear hK K
 ·first|exact trivial|omega|(simp only [ah] at *; omega)|(simp [ah] at *; omega)|simp_all
 refine qa (qm (qm ?_))
 refine ab fun K hK=>aa ae ?_
 simp only [ak,fl,gp,aj,simprocAttr]
 refine af ?_ (hK _ ?_)<;>clear hK K
 ·first|exact trivial|omega|(simp only [ah] at *; omega)|(simp [ah] at *; omega)|simp_all
 refine qa (ql ?_)
 refine aA (ι:=Nat) (fun i=>⟨17,[(1,.ptr 0 0),(5,.p (.int .i64 n)),(6,.p (.int .i64 i))],[.own [.p (.int .i64 n),.p (.list (il m))]]⟩) (fun i=>i≤e) (fun i=>n - i) 0 (Nat.zero_le _) [0] (by simp only [leq,bh,ak,fl,gp,aj,simprocAttr]<;>trivial) fun i hi=>?_
 refine qm ?_
 refine ab fun K hK=>aa ae ?_
 simp only [ak,fl,gp,aj,simprocAttr]
 refine af trivial (hK _ ?_)<;>clear hK K
 refine qa (qm ?_)
 refine an rfl (fun hC1=>?_) (fun hC1=>?_)
 ·(try simp only [aI] at hC1)
  refine qh (qa (qm (ql (qm ?_))))
  refine ab fun K hK=>aa ae ?_
  simp only [ak,fl,gp,aj,simprocAttr]
  refine af trivial (hK _ ?_)<;>clear hK K
  refine qa (qm ?_)
  refine ab fun K hK=>aa ae ?_
  simp only [ak,fl,gp,aj,simprocAttr]
  refine ao trivial (al (nj T (show i < n by omega) (show i < n by omega)) rfl rfl rfl (by simp only [ay,Nat.reduceLT]) (by repeat (first|exact trivial|constructor)) (aa ae ?_))
  simp only [ak,fl,gp,aj,simprocAttr]
  refine af ?_ (hK _ ?_)<;>clear hK K
  ·first|exact trivial|omega|(simp only [ah] at *; omega)|(simp [ah] at *; omega)|simp_all
  refine qa ?_
  refine an rfl (fun hC2=>?_) (fun hC2=>?_)
  ·(try simp only [aI] at hC2)
   have hie:i=e:=(G.idem (by omega)).1 (by omega)
   refine qm ?_
   refine ab fun K hK=>aa ae ?_
   simp only [ak,fl,gp,aj,simprocAttr]
   refine af trivial (hK _ ?_)<;>clear hK K
   refine qa (qk (qe (qb (qb (qe (qb ?_))))))
   simp only [Tryd.results47,cy,ak,fl,gp,aj,simprocAttr]
   all_goals (rw [hie])
  (try simp only [aI] at hC2)
  have hie:i ≠ e:=fun h=>hC2 (by rw [(G.idem (show i < n by omega)).2 h])
  refine qh (qd (qa ?_))
  refine ab fun K hK=>aa ae ?_
  simp only [ak,fl,gp,aj,simprocAttr]
  refine af ?_ (hK _ ?_)<;>clear hK K
  ·first|exact trivial|omega|(simp only [ah] at *; omega)|(simp [ah] at *; omega)|simp_all
  refine qa ?_
  refine ⟨i + 1,[0],by omega,by omega,?_⟩
  simp only [leq,bh,ak,fl,gp,aj,simprocAttr]<;>first|trivial|omega
 (try simp only [aI] at hC1)
 omega
theorem DT {n e:Nat} {m:List Int} (h:GT n m n e) {a:Nat} (ha:a < n):ix (row m n a) (e:Nat)=(iv n (op m n) e a:Nat):=by
 have G:=h.2.2
 have T:=h.2.1
 obtain ⟨i1,i2,i3,i4⟩:=G.lE ha
 unfold ix
 rw [dc (a:=iv n (op m n) e a) (by rw [nL T ha]; exact i1) (decide_eq_true (by rw [nH T ha i1,i2])) fun j hj=>decide_eq_false fun hj2=>?_]
 rw [nH T ha (by omega)] at hj2
 have:=i4 j (by omega) (.inl (by omega))
 omega
theorem rA {n e:Nat} {m:List Int} (h:GT n m n e) {a:Nat} (ha:a < n):cL Tryd.prog 48 [gp n m,.int .i64 a] (.int .i64 (iv n (op m n) e a:Nat)):=by
 have G:=h.2.2
 have T:=h.2.1
 have hb:=T.big
 have hr:=DT h ha
 have hr1:=nL T ha
 have hl:=T.len
 have hsq:=qp hb
 have hr2:(a + 1) * n≤n * n:=Nat.mul_le_mul_right _ ha
 have hr3:a * n≤(a + 1) * n:=Nat.mul_le_mul_right _ (by omega)
 have hr4:(a:Int) * (n:Int)=((a * n:Nat):Int):=(Int.natCast_mul a n).symm
 have hr5:((a:Int) + 1) * (n:Int)=(((a + 1) * n:Nat):Int):=by rw [Int.natCast_mul]; rfl
 refine aM ae Tryd.func48 rfl (by kernel_rfl) (by rw [Tryd.ntmps48]; exact Nat.le_add_left 2 _) ?_; rw [Tryd.ntmps48]
 refine qm ?_
 refine ab fun K hK=>aa ae ?_
 simp only [ak,fl,gp,aj,simprocAttr]
 refine af ?_ (hK _ ?_)<;>clear hK K
 ·first|exact trivial|omega|(simp only [ah] at *; omega)|(simp [ah] at *; omega)|simp_all
 refine qa (qm ?_)
 refine bf mixed (by kernel_rfl) fun K hK=>aa ae ?_
 simp only [ak,fl,gp,aj,simprocAttr,nY,oY,oQ]
 refine ao ?_ (al (nA h) rfl rfl rfl (by simp only [ay,Nat.reduceLT]) (by repeat (first|exact trivial|constructor)) (aa ae ?_))
 ·rw [hr4,hr5]; simp only [ah]; omega
 simp only [ak,fl,gp,aj,simprocAttr,nY,oY,oQ]
 refine ao trivial (al (wg (row m n a) (e:Nat) (by omega)) rfl rfl rfl (by simp only [ay,Nat.reduceLT]) (by repeat (first|exact trivial|constructor)) (aa ae ?_))
 simp only [ak,fl,gp,aj,simprocAttr,nY,oY,oQ]
 refine af ?_ (hK _ ?_)<;>clear hK K
 ·first|exact trivial|omega|(simp only [ah] at *; omega)|(simp [ah] at *; omega)|simp_all
 refine qa (qk ?_)
 simp only [Tryd.results48,cy,ak,fl,gp,aj,simprocAttr]
 all_goals (rw [hr])
theorem xW {n e:Nat} {m:List Int} (h:GT n m n e) {a:Nat} (ha:a < n):cL Tryd.prog 118 [gp n m,.int .i64 a] (.int .i64 (ord n (op m n) e a:Nat)):=by
 have G:=h.2.2
 have T:=h.2.1
 have hb:=T.big
 obtain ⟨o1,o2,o3,o4⟩:=G.jw ha
 refine aM ae Tryd.func118 rfl (by kernel_rfl) (by rw [Tryd.ntmps118]; exact Nat.le_add_left 2 _) ?_; rw [Tryd.ntmps118]
 refine qm ?_
 refine ab fun K hK=>aa ae ?_
 simp only [ak,fl,gp,aj,simprocAttr]
 refine af ?_ (hK _ ?_)<;>clear hK K
 ·first|exact trivial|omega|(simp only [ah] at *; omega)|(simp [ah] at *; omega)|simp_all
 refine qa (qm ?_)
 refine ab fun K hK=>aa ae ?_
 simp only [ak,fl,gp,aj,simprocAttr]
 refine af trivial (hK _ ?_)<;>clear hK K
 refine qa (qm (qm ?_))
 refine ab fun K hK=>aa ae ?_
 simp only [ak,fl,gp,aj,simprocAttr]
 refine af trivial (hK _ ?_)<;>clear hK K
 refine qa (ql ?_)
 refine aA (ι:=Nat) (fun k=>⟨19,[(1,.p (.int .i64 a)),(2,.ptr 0 0),(5,.p (.int .i64 k)),(6,.p (.int .i64 (pw (op m n) e a k:Nat)))],[.own [.p (.int .i64 n),.p (.list (il m))]]⟩) (fun k=>1≤k∧k≤ord n (op m n) e a) (fun k=>ord n (op m n) e a - k) 1 ⟨Nat.le_refl _,o1⟩ [0] (by rw [G.qT ha]; simp only [leq,bh,ak,fl,gp,aj,simprocAttr]<;>trivial) fun k hk=>?_
 obtain ⟨hk1,hk2⟩:=hk
 refine qm (qm ?_)
 refine ab fun K hK=>aa ae ?_
 simp only [ak,fl,gp,aj,simprocAttr]
 refine ao trivial (al (nA h) rfl rfl rfl (by simp only [ay,Nat.reduceLT]) (by repeat (first|exact trivial|constructor)) (aa ae ?_))
 simp only [ak,fl,gp,aj,simprocAttr]
 refine af ?_ (hK _ ?_)<;>clear hK K
 ·first|exact trivial|omega|(simp only [ah] at *; omega)|(simp [ah] at *; omega)|simp_all
 refine qa ?_
 refine an rfl (fun hC1=>?_) (fun hC1=>?_)
 ·(try simp only [aI] at hC1)
  have hne:k ≠ ord n (op m n) e a:=fun h=>hC1 (by rw [h,o3])
  refine qh (qa (qm (ql ?_)))
  refine ab fun K hK=>aa ae ?_
  simp only [ak,fl,gp,aj,simprocAttr]
  refine af ?_ (hK _ ?_)<;>clear hK K
  ·first|exact trivial|omega|(simp only [ah] at *; omega)|(simp [ah] at *; omega)|simp_all
  refine qd (qa ?_)
  refine ab fun K hK=>aa ae ?_
  simp only [ak,fl,gp,aj,simprocAttr]
  refine ao trivial (al (nj T (G.dJ ha k) ha) rfl rfl rfl (by simp only [ay,Nat.reduceLT]) (by repeat (first|exact trivial|constructor)) (aa ae ?_))
  simp only [ak,fl,gp,aj,simprocAttr]
  refine af ?_ (hK _ ?_)<;>clear hK K
  ·first|exact trivial|omega|(simp only [ah] at *; omega)|(simp [ah] at *; omega)|simp_all
  refine qa ?_
  refine ⟨k + 1,[0],⟨by omega,by omega⟩,by omega,?_⟩
  simp only [leq,bh,ak,fl,gp,aj,simprocAttr]<;>first|trivial|omega
 (try simp only [aI] at hC1)
 have hek:k=ord n (op m n) e a:=by
  rcases Nat.lt_or_ge k (ord n (op m n) e a) with hlt | hge
  ·exact absurd (by omega) (o4 k hk1 hlt)
  omega
 refine qj (qc (qc (qf (qa (qm ?_)))))
 refine ab fun K hK=>aa ae ?_
 simp only [ak,fl,gp,aj,simprocAttr]
 refine af trivial (hK _ ?_)<;>clear hK K
 refine qa (qk ?_)
 simp only [Tryd.results118,cy,ak,fl,gp,aj,simprocAttr]
 all_goals (rw [hek])
def rg (g:Nat→Int) (i:Nat):List Int:=(List.range i).map g
theorem vV (g:Nat→Int) (i:Nat):rg g (i + 1)=rg g i++[g i]:=by simp [rg,List.range_succ]
theorem uT (g:Nat→Int) (i:Nat):(rg g i).length=i:=by simp [rg]
theorem DS (g:Nat→Int) {n i:Nat} (h:i < n):(rg g n).getD i 0=g i:=by
 simp [rg,List.getD,List.getElem?_range h]
def xb (m:List Int) (n e:Nat):List Int:=rg (fun a=>((ord n (op m n) e a:Nat):Int)) n
theorem xR {n e:Nat} {m:List Int} (h:GT n m n e):cL Tryd.prog 101 [gp n m] (.tup [.list (il (xb m n e)),fl (0,0)]):=by
 have hm:=h.2.1.len
 have hsq:=qp h.2.1.big
 have hb:=h.2.1.big
 have hlen:=uT (fun a=>((ord n (op m n) e a:Nat):Int))
 have hsuc:=vV (fun a=>((ord n (op m n) e a:Nat):Int))
 refine aM ae Tryd.func101 rfl (by kernel_rfl) (by rw [Tryd.ntmps101]; exact Nat.le_add_left 1 _) ?_; rw [Tryd.ntmps101]
 refine qm ?_
 refine ab fun K hK=>aa ae ?_
 simp only [ak,fl,gp,aj,simprocAttr]
 refine af ?_ (hK _ ?_)<;>clear hK K
 ·first|exact trivial|omega|(simp only [ah] at *; omega)|(simp [ah] at *; omega)|simp_all
 refine qa (qm (qm ?_))
 refine ab fun K hK=>aa ae ?_
 simp only [ak,fl,gp,aj,simprocAttr]
 refine ao trivial (al (wb n m (by omega)) rfl rfl rfl (by simp only [ay,Nat.reduceLT]) (by repeat (first|exact trivial|constructor)) (aa ae ?_))
 simp only [ak,fl,gp,aj,simprocAttr,zV h]
 refine af ?_ (hK _ ?_)<;>clear hK K
 ·first|exact trivial|omega|(simp only [ah] at *; omega)|(simp [ah] at *; omega)|simp_all
 refine qa (qm ?_)
 refine ab fun K hK=>aa ae ?_
 simp only [ak,fl,gp,aj,simprocAttr]
 refine af ?_ (hK _ ?_)<;>clear hK K
 ·first|exact trivial|omega|(simp only [ah] at *; omega)|(simp [ah] at *; omega)|simp_all
 refine qa ?_
 refine an rfl (fun hC1=>?_) (fun hC1=>?_)
 ·cases hC1
 (try simp only [aI] at hC1)
 refine qh (qa (qm ?_))
 refine ab fun K hK=>aa ae ?_
 simp only [ak,fl,gp,aj,simprocAttr]
 refine af trivial (hK _ ?_)<;>clear hK K
 refine qa (qm (qm ?_))
 refine bT 5 rfl ?_
 refine ab fun K hK=>aa ae ?_
 simp only [ak,fl,gp,aj,simprocAttr]
 refine af ?_ (hK _ ?_)<;>clear hK K
 ·first|exact trivial|omega|(simp only [ah] at *; omega)|(simp [ah] at *; omega)|simp_all
 refine qa (ql ?_)
 refine aA (ι:=Nat) (fun i=>⟨27,[(1,.ptr 0 0),(3,.ptr 1 0),(5,.sl 2 0 (rg (fun a=>((ord n (op m n) e a:Nat):Int)) i).length),(14,.p (.int .i64 n)),(15,.p (.int .i64 i))],[.own [.p (.int .i64 n),.p (.list (il m))],.own [.p (.int .i64 0),.p (.int .i64 0)],.own (ol (rg (fun a=>((ord n (op m n) e a:Nat):Int)) i))]⟩) (fun i=>i≤n) (fun i=>n - i) 0 (Nat.zero_le _) [0,1,3] (by simp only [leq,bh,ak,fl,gp,aj,simprocAttr]<;>simp [rg,kv]) fun i hi=>?_
 have hli:=hlen i
 refine qm ?_
 refine ab fun K hK=>aa ae ?_
 simp only [ak,fl,gp,aj,simprocAttr]
 refine af trivial (hK _ ?_)<;>clear hK K
 refine qa (qm ?_)
 refine an rfl (fun hC2=>?_) (fun hC2=>?_)
 ·(try simp only [aI] at hC2)
  have hlt:i < n:=by omega
  refine qh (qa (qm (ql (qm ?_))))
  refine ab fun K hK=>aa ae ?_
  simp only [ak,fl,gp,aj,simprocAttr]
  refine af trivial (hK _ ?_)<;>clear hK K
  refine qa ?_
  refine ab fun K hK=>aa ae ?_
  simp only [ak,fl,gp,aj,simprocAttr]
  refine ao trivial (al (xW h hlt) rfl rfl rfl (by simp only [ay,Nat.reduceLT]) (by repeat (first|exact trivial|constructor)) (aa ae ?_))
  simp only [ak,fl,gp,aj,simprocAttr]
  refine af ?_ (hK _ ?_)<;>clear hK K
  ·first|exact trivial|omega|(simp only [ah] at *; omega)|(simp [ah] at *; omega)|simp_all
  refine qd (qa ?_)
  refine ab fun K hK=>aa ae ?_
  simp only [ak,fl,gp,aj,simprocAttr]
  refine af ?_ (hK _ ?_)<;>clear hK K
  ·first|exact trivial|omega|(simp only [ah] at *; omega)|(simp [ah] at *; omega)|simp_all
  refine qa ?_
  refine ⟨i + 1,[0,1,3],by omega,by omega,?_⟩
  rw [hsuc]
  simp only [leq,bh,ak,fl,gp,aj,simprocAttr]<;>first|trivial|omega
 (try simp only [aI] at hC2)
 have hin:i=n:=by omega
 subst hin
 refine nQ 5 2 rfl rfl ?_
 refine qj (qc (qc (qf (qa (qm ?_)))))
 refine ab fun K hK=>aa ae ?_
 simp only [ak,fl,gp,aj,simprocAttr]
 refine af ?_ (hK _ ?_)<;>clear hK K
 ·first|exact trivial|omega|(simp only [ah] at *; omega)|(simp [ah] at *; omega)|simp_all
 refine qa (qk ?_)
 simp only [Tryd.results101,cy,ak,fl,gp,aj,simprocAttr]
 all_goals (rfl)
theorem rb (z:Int):IntKind.u64.wrap z=z % 18446744073709551616:=rfl
theorem uY {a:Nat} (h:a < 2 ^ 64):IntKind.u64.wrap (a:Int)=(a:Int):=by
 rw [rb]; omega
theorem nT {a:Nat} (h:a < 2 ^ 64):(BitVec.ofInt 64 (a:Int)).toNat=a:=by
 rw [BitVec.toNat_ofInt]; omega
theorem bv_and {a b:Nat} (ha:a < 2 ^ 64) (hb:b < 2 ^ 64):mQ (fun _ x y=>x &&& y) .u64 (a:Int) (b:Int) = .int .u64 ((a &&& b:Nat):Int):=by
 show PV.int .u64 (IntKind.u64.wrap ((BitVec.ofInt 64 (a:Int) &&& BitVec.ofInt 64 (b:Int)).toNat:Int))=_
 rw [BitVec.toNat_and,nT ha,nT hb,uY (Nat.and_lt_two_pow a hb)]
theorem Dp {a b:Nat} (ha:a < 2 ^ 64) (hb:b < 2 ^ 64):mQ (fun _ x y=>x ||| y) .u64 (a:Int) (b:Int) = .int .u64 ((a ||| b:Nat):Int):=by
 show PV.int .u64 (IntKind.u64.wrap ((BitVec.ofInt 64 (a:Int) ||| BitVec.ofInt 64 (b:Int)).toNat:Int))=_
 rw [BitVec.toNat_or,nT ha,nT hb,uY (Nat.or_lt_two_pow ha hb)]
theorem ur:IntKind.u64.bits=64:=rfl
theorem B6 {b:Nat} (hb:b < 64):IntKind.u64.wrap (1 * 2 ^ (min b IntKind.u64.bits))=((2 ^ b:Nat):Int):=by
 rw [ur,Nat.min_eq_left (by omega),Int.one_mul,show (2:Int) ^ b=((2 ^ b:Nat):Int) by simp,uY (Nat.pow_lt_pow_right (by omega) hb)]
theorem Gn {a b:Nat} (hb:b < 64):(a:Int).fdiv (2 ^ (min b IntKind.u64.bits))=((a / 2 ^ b:Nat):Int):=by
 rw [ur,Nat.min_eq_left (by omega),show (2:Int) ^ b=((2 ^ b:Nat):Int) by simp,Int.fdiv_eq_ediv_of_nonneg _ (Int.natCast_nonneg _),← Int.natCast_ediv]
theorem Cf {a:Nat} (ha:a < 2 ^ 64):mQ (fun _ x y=>x &&& y) .u64 (a:Int) 1 = .int .u64 ((a % 2:Nat):Int):=by
 have:=bv_and ha (show 1 < 2 ^ 64 by omega)
 rwa [Nat.and_one_is_mod] at this
def tz (s:Nat):Nat:=(bO s.testBit 64).getD 64
theorem Fp {s i:Nat} (hs:s < 2 ^ 64) (h:s.testBit i=true):i < 64:=by
 rcases Nat.lt_or_ge i 64 with h1 | h1
 ·exact h1
 have:=Nat.testBit_lt_two_pow (Nat.lt_of_lt_of_le hs (Nat.pow_le_pow_right (by omega) h1))
 rw [h] at this; cases this
theorem kN {s:Nat} (hs:s < 2 ^ 64) (h0:s ≠ 0):tz s < 64∧s.testBit (tz s)=true∧∀ j,j < tz s→s.testBit j=false:=by
 cases h:bO s.testBit 64 with
 | none =>
  obtain ⟨i,hi⟩:=Nat.exists_testBit_of_ne_zero h0
  have:=ca h i (Fp hs hi)
  rw [hi] at this; cases this
 | some a =>
  have e:tz s=a:=by unfold tz; rw [h]; rfl
  rw [e]
  exact cE h
theorem yA {s:Nat} (hs:s < 2 ^ 64) (h0:s ≠ 0):s=2 ^ (tz s + 1) * (s / 2 ^ (tz s + 1)) + 2 ^ tz s:=by
 obtain ⟨h1,h2,h3⟩:=kN hs h0
 have e1:s % 2 ^ (tz s + 1)=2 ^ tz s:=by
  refine Nat.eq_of_testBit_eq fun i=>?_
  rw [Nat.testBit_mod_two_pow,Nat.testBit_two_pow]
  rcases Nat.lt_trichotomy i (tz s) with h | h | h
  ·rw [h3 i h]; simp; omega
  ·subst h; rw [h2]; simp
  have a1:decide (i < tz s + 1)=false:=by simp; omega
  have a2:decide (tz s=i)=false:=by simp; omega
  rw [a1,a2]; rfl
 have:=Nat.div_add_mod s (2 ^ (tz s + 1))
 omega
theorem tv {s:Nat} (hs:s < 2 ^ 64) (h0:s ≠ 0) (i:Nat):(s - 1).testBit i=if i < tz s then true else if i=tz s then false else s.testBit i:=by
 have e:=yA hs h0
 have hp:0 < 2 ^ tz s:=Nat.two_pow_pos _
 have e1:s - 1=2 ^ (tz s + 1) * (s / 2 ^ (tz s + 1)) + (2 ^ tz s - 1):=by omega
 have hlt:2 ^ tz s < 2 ^ (tz s + 1):=Nat.pow_lt_pow_right (by omega) (by omega)
 have b1:s.testBit i=(2 ^ (tz s + 1) * (s / 2 ^ (tz s + 1)) + 2 ^ tz s).testBit i:=by rw [← e]
 rw [e1,Nat.testBit_two_pow_mul_add _ (by omega),b1,Nat.testBit_two_pow_mul_add _ hlt,Nat.testBit_two_pow_sub_one]
 rcases Nat.lt_trichotomy i (tz s) with h | h | h
 ·rw [if_pos (by omega),if_pos h]; simpa using h
 ·rw [if_pos (by omega),if_neg (by omega),if_pos h]; simp; omega
 rw [if_neg (by omega),if_neg (by omega),if_neg (by omega),if_neg (by omega)]
theorem BC {s:Nat} (hs:s < 2 ^ 64) (h0:s ≠ 0):s &&& (2 ^ 64 - s)=2 ^ tz s:=by
 obtain ⟨h1,h2,h3⟩:=kN hs h0
 refine Nat.eq_of_testBit_eq fun i=>?_
 have e:2 ^ 64 - s=2 ^ 64 - ((s - 1) + 1):=by omega
 rw [Nat.testBit_and,e,Nat.testBit_two_pow_sub_succ (by omega),tv hs h0,Nat.testBit_two_pow]
 rcases Nat.lt_trichotomy i (tz s) with h | h | h
 ·rw [h3 i h]; simp; omega
 ·subst h; rw [h2]; simp; omega
 rw [if_neg (by omega),if_neg (by omega)]
 cases s.testBit i<;>simp<;>omega
def cut (s:Nat):Nat:=s &&& (s - 1)
theorem BE {s:Nat} (hs:s < 2 ^ 64) (h0:s ≠ 0) (i:Nat):(cut s).testBit i=(s.testBit i && !decide (i=tz s)):=by
 obtain ⟨h1,h2,h3⟩:=kN hs h0
 unfold cut
 rw [Nat.testBit_and,tv hs h0]
 rcases Nat.lt_trichotomy i (tz s) with h | h | h
 ·rw [h3 i h]; simp
 ·rw [if_neg (by omega),if_pos h]; simp [h]
 rw [if_neg (by omega),if_neg (by omega)]
 have:decide (i=tz s)=false:=by simp; omega
 rw [this]; simp
theorem zq {s:Nat} (h0:s ≠ 0):cut s < s:=by
 have:cut s≤s - 1:=Nat.and_le_right
 omega
def jS (n:Nat) (p:Nat→Bool):List Nat:=(List.range n).filter p
def dI (n:Nat) (p:Nat→Bool):List Int:=(jS n p).map (fun (a:Nat)=>(a:Int))
theorem BZ (n:Nat) (p:Nat→Bool):(dI n p).length=(jS n p).length:=by simp [dI]
theorem pU {n:Nat} {p q:Nat→Bool} (h:∀ a,a < n→p a=q a):jS n p=jS n q:=List.filter_congr fun a ha=>h a (List.mem_range.1 ha)
theorem qn {n:Nat} {p q:Nat→Bool} (h:∀ a,a < n→p a=q a):dI n p=dI n q:=by unfold dI; rw [pU h]
theorem sh (n:Nat) (p:Nat→Bool):dI (n + 1) p=dI n p++if p n=true then [(n:Int)] else []:=by
 unfold dI jS
 rw [List.range_succ,List.filter_append,List.map_append]
 congr 1
 cases h:p n<;>simp [h]
theorem CV {n m : Nat} {p : Nat → Bool} (h : n ≤ m) (hp : ∀ a, n ≤ a → a < m → p a = false) : dI m p = dI n p := by
  induction m with
  | zero => have : n = 0 := by omega
            subst this; rfl
  | succ m ih =>
    by_cases e : n = m + 1
    · subst e; rfl
    · rw [sh, hp m (by omega) (by omega), ih (by omega) fun a h1 h2 => hp a h1 (by omega)]; simp
theorem vm {n:Nat} {p:Nat→Bool} {a:Nat} : a∈jS n p↔a < n∧p a=true:=by simp [jS]
theorem j6 (n:Nat) (p:Nat→Bool):(dI n p).length≤n:=by
 rw [BZ]
 have:=List.length_filter_le p (List.range n)
 rwa [List.length_range] at this
def tR (s:Nat):List Int:=dI 64 s.testBit
theorem AL:tR 0=[]:=by
 unfold tR dI jS
 simp
theorem pS {n k:Nat} {p:Nat→Bool} (hk:k < n) (h1:p k=true) (h2:∀ j,j < k→p j=false):jS n p=k :: jS n (fun i=>p i && !decide (i=k)):=by
 unfold jS
 have e:n=k + ((n - k - 1) + 1):=by omega
 rw [e,List.range_add,List.filter_append,List.filter_append]
 have z:∀ q:Nat→Bool,(∀ j,j < k→q j=false)→(List.range k).filter q=[]:=by
  intro q hq
  rw [List.filter_eq_nil_iff]
  intro a ha
  rw [hq a (List.mem_range.1 ha)]; simp
 rw [z p h2,z _ (fun j hj=>by rw [h2 j hj]; rfl),List.nil_append,List.nil_append,List.range_succ_eq_map,List.map_cons,List.filter_cons,List.filter_cons]
 rw [if_pos (by simpa using h1),if_neg (by simp)]
 simp only [Nat.add_zero,List.cons.injEq,true_and]
 refine List.filter_congr fun a ha=>?_
 simp only [List.map_map,List.mem_map,List.mem_range,Function.comp] at ha
 obtain ⟨j,_,rfl⟩:=ha
 have:decide (k + (j + 1)=k)=false:=by simp
 simp [this]
theorem yt {s:Nat} (hs:s < 2 ^ 64) (h0:s ≠ 0):tR s=(tz s:Int) :: tR (cut s):=by
 obtain ⟨h1,h2,h3⟩:=kN hs h0
 unfold tR dI
 rw [pS h1 h2 h3,List.map_cons,pU fun a _=>(BE hs h0 a).symm]
theorem B8 (s:Nat):(tR s).length≤64:=j6 _ _
theorem G9 {s n:Nat} (hn:n≤64) (hs:s < 2 ^ n):tR s=dI n s.testBit:=by
 unfold tR
 refine CV hn fun a h1 _=>Nat.testBit_lt_two_pow (Nat.lt_of_lt_of_le hs (Nat.pow_le_pow_right (by omega) h1))
theorem Gz (s a:Nat) (hs:s < 2 ^ 64) (ha:a < 64):cL Tryd.prog 73 [.int .u64 s,.int .i64 a] (.bool (s.testBit a)):=by
 have h1:s / 2 ^ a < 2 ^ 64:=Nat.lt_of_le_of_lt (Nat.div_le_self _ _) hs
 refine aM ae Tryd.func73 rfl (by kernel_rfl) (by rw [Tryd.ntmps73]; exact Nat.le_add_left 2 _) ?_; rw [Tryd.ntmps73]
 refine qm ?_
 refine ab fun K hK=>aa ae ?_
 simp only [ak,fl,gp,aj,simprocAttr]
 refine af trivial (hK _ ?_)<;>clear hK K
 refine qa (qm ?_)
 refine ab fun K hK=>aa ae ?_
 simp only [ak,fl,gp,aj,simprocAttr,Gn ha,Cf h1]
 refine af ?_ (hK _ ?_)<;>clear hK K
 ·first|exact trivial|omega|(simp only [ah] at *; omega)|(simp [ah] at *; omega)|simp_all
 refine qa (qk ?_)
 simp only [Tryd.results73,cy,ak,fl,gp,aj,simprocAttr]
 all_goals (rw [Nat.testBit_eq_decide_div_mod_eq]; exact decide_eq_decide.2 (by omega))
theorem GA:Hj 0 = .p (.ptr iK):=rfl 
theorem xc:iK.length=64:=rfl 
def Gg (k:Nat):Nat:=2 ^ k * 285870213051353865 % 18446744073709551616 / 2 ^ 58
theorem Eg (k:Nat):(IntKind.u64.wrap (((2 ^ k:Nat):Int) * 285870213051353865)).fdiv (2 ^ min 58 IntKind.u64.bits)=((Gg k:Nat):Int):=by
 rw [rb,ur,Int.fdiv_eq_ediv_of_nonneg _ (by decide)]
 show (((2 ^ k:Nat):Int) * ((285870213051353865:Nat):Int)) % ((18446744073709551616:Nat):Int) / (((2 ^ 58:Nat)):Int)=_
 rw [← Int.natCast_mul,← Int.natCast_emod,← Int.natCast_ediv]
 rfl
def Eh (k:Nat):PV→Bool
 | .int .u8 i=>decide (i=(k:Int))
 | _=>false
theorem Ch {k:Nat} {p:PV} (h:Eh k p=true):p = .int .u8 (k:Nat):=by
 unfold Eh at h
 split at h
 ·rw [of_decide_eq_true h]
 cases h
theorem Cn:((List.range 64).all fun k=>Eh k ((iK.drop (Gg k * 1)).headD default))=true:=by decide +kernel 
theorem Ej {k:Nat} (hk:k < 64):(iK.drop (Gg k * 1)).headD default = .int .u8 (k:Nat):=
 Ch (List.all_eq_true.1 Cn k (List.mem_range.2 hk)) 
theorem E7 (k:Nat):Gg k < 64:=by unfold Gg; omega
theorem Bl {k:Nat} (hk:k < 64):IntKind.i64.wrap (k:Int)=(k:Int):=by
 show (if _ then _ else _)=_
 have h1:(k:Int) % (2 ^ IntKind.i64.bits:Int)=(k:Int):=by
  show (k:Int) % 18446744073709551616=_
  omega
 rw [h1,if_neg]
 show ¬ (_ && decide ((k:Int) ≥ 9223372036854775808))=true
 simp; omega
theorem Hu (s:Nat) (hs:s < 2 ^ 64) (h0:s ≠ 0):cL Tryd.prog 92 [.int .u64 s] (.int .i64 (tz s:Nat)):=by
 obtain ⟨h1,h2,h3⟩:=kN hs h0
 have hneg:IntKind.u64.wrap (-(s:Int))=((2 ^ 64 - s:Nat):Int):=by
  rw [rb]; omega
 have hd:=E7 (tz s)
 refine aM ae Tryd.func92 rfl (by kernel_rfl) (by rw [Tryd.ntmps92]; exact Nat.le_add_left 1 _) ?_; rw [Tryd.ntmps92]
 refine qm ?_
 refine ab fun K hK=>aa ae ?_
 simp only [ak,fl,gp,aj,simprocAttr]
 refine af trivial (hK _ ?_)<;>clear hK K
 refine qa (qm (qm ?_))
 refine ab fun K hK=>aa ae ?_
 simp only [ak,fl,gp,aj,simprocAttr]
 refine af trivial (hK _ ?_)<;>clear hK K
 refine qa ?_
 refine an rfl (fun hC1=>?_) (fun hC1=>?_)
 ·(try simp only [aI] at hC1)
  omega
 (try simp only [aI] at hC1)
 refine qh (qa (qm ?_))
 refine ab fun K hK=>aa ae ?_
 simp only [ak,fl,gp,aj,simprocAttr,hneg,bv_and hs (show 2 ^ 64 - s < 2 ^ 64 by omega),BC hs h0,GA,Eg,Ej h1,Bl h1,xc,List.length_drop]
 refine af ?_ (hK _ ?_)<;>clear hK K
 ·first|exact trivial|omega|(simp only [ah] at *; omega)|(simp [ah] at *; omega)|simp_all
 refine qa (qk ?_)
 simp only [Tryd.results92,cy,ak,fl,gp,aj,simprocAttr]
 all_goals (rfl)
theorem Bc {P:Program} {f:FuncId} {args l:List PV} (h:C8 P f args (.sl 0 0 l.length) [.own (bE l)]) (hone:l.all PV.one=true):cL P f args (.list l):=by
 refine ⟨h.1,fun okA w vals h1 h2 h3=>(h.2 okA w vals h1 h2 h3).mono fun e w' ⟨v,m',he,hbl,ho⟩=>⟨v,he,hbl,?_⟩⟩
 cases ho.val with
 | sl _ _ _ _ hk hs =>
  rcases hs with ⟨h0,ad,rfl⟩ | ⟨lc,cap,hm,rfl,hc1,hc2⟩
  ·have:l=[]:=List.eq_nil_of_length_eq_zero h0
   subst this
   exact .list0 _ _ fun _=>rfl
  rcases ho.blk 0 (bE l) rfl with ⟨hn,_⟩ | ⟨l',cur,e',hm2,hB,hh,hs1,hs3,hs2,hcells⟩
  ·have:l=[]:=List.map_eq_nil_iff.1 hn
   subst this
   exact .list0 _ _ fun h=>by cases h
  rw [hm] at hm2; cases hm2
  rw [bB] at hs2
  refine l8 rfl hone ⟨.inr hB,(Array.getElem?_eq_some_iff.1 hh).1⟩ hc1 (fun j=>cur.getD (lc.o + j) undef) (fun j hj=>?_) fun j hj=>?_
  ·have:lc.o + 0 + j=lc.o + j:=by omega
   rw [this]; exact cell_of hh (by omega)
  have:=hcells j (by rw [bB]; exact hj)
  have e2:(bE l)[j]'(by rw [bB]; exact hj) = .p l[j]:=by simp [bE]
  rw [e2] at this
  exact this.aQ.mono fun b hb=>⟨hb.1,hb.2.1⟩
theorem Eb (s:Nat) (hs:s < 2 ^ 64):C8 Tryd.prog 68 [.int .u64 s] (.sl 0 0 (tR s).length) [.own (bE (il (tR s)))]:=by
 refine uH ae Tryd.func68 rfl (by kernel_rfl) (by rw [Tryd.ntmps68]; exact Nat.le_add_left 1 _) ?_; rw [Tryd.ntmps68]
 refine qm ?_
 refine ab fun K hK=>aa ae ?_
 simp only [ak,fl,gp,aj,simprocAttr]
 refine af trivial (hK _ ?_)<;>clear hK K
 refine qa (qm ?_)
 refine ab fun K hK=>aa ae ?_
 simp only [ak,fl,gp,aj,simprocAttr]
 refine af trivial (hK _ ?_)<;>clear hK K
 refine qa (qm (ql ?_))
 refine bT 3 rfl ?_
 refine aA (ι:=Nat × List Int) (fun p=>⟨16,[(0,.p (.int .u64 p.1)),(3,.sl 0 0 p.2.length)],[.own (ol p.2)]⟩) (fun p=>p.1 < 2 ^ 64∧p.2++tR p.1=tR s) (fun p=>p.1) (s,[]) ⟨hs,rfl⟩ [0] (by simp only [leq,bh,ak,fl,gp,aj,simprocAttr]<;>simp [kv]) fun p hp=>?_
 obtain ⟨t,out⟩:=p
 obtain ⟨ht,ho⟩:=hp
 simp only at ht ho
 refine qm (qm ?_)
 refine ab fun K hK=>aa ae ?_
 simp only [ak,fl,gp,aj,simprocAttr]
 refine af trivial (hK _ ?_)<;>clear hK K
 refine qa ?_
 refine an rfl (fun hC1=>?_) (fun hC1=>?_)
 ·(try simp only [aI] at hC1)
  have h0:t ≠ 0:=by omega
  have ht1:t - 1 < 2 ^ 64:=by omega
  have hsub:IntKind.u64.wrap ((t:Int) - 1)=((t - 1:Nat):Int):=by rw [rb]; omega
  have hcut:t &&& (t - 1)=cut t:=rfl
  have hc:=yt ht h0
  have hlen:out.length + 1≤64:=by
   have h1:=B8 s
   rw [← ho,hc] at h1
   simp at h1; omega
  refine qh (qa (qm (ql ?_)))
  refine ab fun K hK=>aa ae ?_
  simp only [ak,fl,gp,aj,simprocAttr]
  refine ao trivial (al (Hu t ht h0) rfl rfl rfl (by simp only [ay,Nat.reduceLT]) (by repeat (first|exact trivial|constructor)) (aa ae ?_))
  simp only [ak,fl,gp,aj,simprocAttr]
  refine af ?_ (hK _ ?_)<;>clear hK K
  ·first|exact trivial|omega|(simp only [ah] at *; omega)|(simp [ah] at *; omega)|simp_all
  refine qd (qa ?_)
  refine ab fun K hK=>aa ae ?_
  simp only [ak,fl,gp,aj,simprocAttr,hsub,bv_and ht ht1,hcut]
  refine af ?_ (hK _ ?_)<;>clear hK K
  ·first|exact trivial|omega|(simp only [ah] at *; omega)|(simp [ah] at *; omega)|simp_all
  refine qa ?_
  refine ⟨(cut t,out++[(tz t:Int)]),[1],⟨?_,?_⟩,zq h0,?_⟩
  ·exact Nat.lt_trans (zq h0) ht
  ·show out++[(tz t:Int)]++tR (cut t)=tR s
   rw [← ho,hc]; simp
  simp only [leq,bh,ak,fl,gp,aj,simprocAttr]<;>first|trivial|omega
 (try simp only [aI] at hC1)
 have h0:t=0:=by omega
 rw [h0,AL,List.append_nil] at ho
 refine qj (qc (qc (qf (qa (qm ?_)))))
 refine ab fun K hK=>aa ae ?_
 simp only [ak,fl,gp,aj,simprocAttr]
 refine af trivial (hK _ ?_)<;>clear hK K
 refine qa (qk ?_)
 simp only [Tryd.results68,o8,o6,ml,yX,je,ak,fl,gp,aj,simprocAttr]
 all_goals (rw [← ho]; exact ⟨[0],by simp only [leq,bh,ak,fl,gp,aj,simprocAttr]<;>simp [ol,bE]⟩)
theorem Ep (s:Nat) (hs:s < 2 ^ 64):cL Tryd.prog 68 [.int .u64 s] (.list (il (tR s))):=by
 have h:=Eb s hs
 rw [← aJ] at h
 exact Bc h (gL _)
def Hm (l:List Int):Nat:=l.foldl (fun s a=>s ||| 2 ^ a.toNat) 0
theorem wA (l:List Int) (i:Nat):(Hm l).testBit i=decide (∃ a∈l,a.toNat=i):=by
 have key:∀ (l:List Int) (s:Nat),(l.foldl (fun s a=>s ||| 2 ^ a.toNat) s).testBit i=(s.testBit i || decide (∃ a∈l,a.toNat=i)):=by
  intro l
  induction l with
  | nil=>intro s; simp
  | cons a r ih =>
   intro s
   rw [List.foldl_cons,ih,Nat.testBit_or,Nat.testBit_two_pow]
   by_cases h:a.toNat=i
   ·simp [h]
   simp [h]
 rw [Hm,key]; simp
theorem D7 {l:List Int} {n:Nat} (h:∀ a∈l,a.toNat < n):Hm l < 2 ^ n:=by
 refine Nat.lt_pow_two_of_testBit _ fun i hi=>?_
 rw [wA,decide_eq_false_iff_not]
 rintro ⟨a,ha,rfl⟩
 have:=h a ha; omega
theorem jJ {n:Nat} {p:Nat→Bool} {x:Int} : x∈dI n p↔∃ a,a < n∧p a=true∧x=(a:Int):=by
 unfold dI
 rw [List.mem_map]
 constructor
 ·rintro ⟨a,ha,rfl⟩
  obtain ⟨h1,h2⟩:=vm.1 ha
  exact ⟨a,h1,h2,rfl⟩
 rintro ⟨a,h1,h2,rfl⟩
 exact ⟨a,vm.2 ⟨h1,h2⟩,rfl⟩
theorem B5 (n:Nat) (p:Nat→Bool):(dI n p).Pairwise (· < ·):=by
 unfold dI jS
 rw [List.pairwise_map]
 refine (List.Pairwise.filter p List.pairwise_lt_range).imp fun {a b} h=>by omega
theorem C2 (n:Nat) (m:List Int) (F:FuncId) (caps:List PV) (p:Nat→Bool) (hn:n≤1000000) (hF:∀ a,a < n→cL Tryd.prog F (.int .i64 a :: caps) (.bool (p a))):cL Tryd.prog 24 [gp n m,.fn F caps] (.list (il (dI n p))):=by
 refine aM ae Tryd.func24 rfl (by kernel_rfl) (by rw [Tryd.ntmps24]; exact Nat.le_add_left 2 _) ?_; rw [Tryd.ntmps24]
 refine qm ?_
 refine ab fun K hK=>aa ae ?_
 simp only [ak,fl,gp,aj,simprocAttr]
 refine af ?_ (hK _ ?_)<;>clear hK K
 ·first|exact trivial|omega|(simp only [ah] at *; omega)|(simp [ah] at *; omega)|simp_all
 refine qa (qm ?_)
 refine ab fun K hK=>aa ae ?_
 simp only [ak,fl,gp,aj,simprocAttr]
 refine af trivial (hK _ ?_)<;>clear hK K
 refine qa (qm (qm ?_))
 refine ab fun K hK=>aa ae ?_
 simp only [ak,fl,gp,aj,simprocAttr]
 refine af trivial (hK _ ?_)<;>clear hK K
 refine qa (ql ?_)
 refine bT 5 rfl ?_
 refine aA (ι:=Nat) (fun i=>⟨21,[(1,.p (.fn F caps)),(2,.ptr 0 0),(5,.sl 1 0 (dI i p).length),(6,.p (.int .i64 i))],[.own [.p (.int .i64 n),.p (.list (il m))],.own (ol (dI i p))]⟩) (fun i=>i≤n) (fun i=>n - i) 0 (Nat.zero_le _) [0,1] (by simp only [leq,bh,ak,fl,gp,aj,simprocAttr]<;>simp [dI,jS,kv]) fun i hi=>?_
 have hl:=j6 i p
 refine qm (qm ?_)
 refine ab fun K hK=>aa ae ?_
 simp only [ak,fl,gp,aj,simprocAttr]
 refine af ?_ (hK _ ?_)<;>clear hK K
 ·first|exact trivial|omega|(simp only [ah] at *; omega)|(simp [ah] at *; omega)|simp_all
 refine qa ?_
 refine an rfl (fun hC1=>?_) (fun hC1=>?_)
 ·(try simp only [aI] at hC1)
  have hlt:i < n:=by omega
  have hs:=sh i p
  refine qh (qa (qm (ql (qm ?_))))
  refine ab fun K hK=>aa ae ?_
  simp only [ak,fl,gp,aj,simprocAttr]
  refine ao trivial (al (hF i hlt) rfl rfl rfl (by simp only [ay,Nat.reduceLT]) (by repeat (first|exact trivial|constructor)) (aa ae ?_))
  simp only [ak,fl,gp,aj,simprocAttr]
  refine af trivial (hK _ ?_)<;>clear hK K
  refine qa ?_
  refine an rfl (fun hC2=>?_) (fun hC2=>?_)
  ·(try simp only [aI] at hC2)
   rw [if_pos hC2] at hs
   refine ab fun K hK=>aa ae ?_
   simp only [ak,fl,gp,aj,simprocAttr]
   refine af ?_ (hK _ ?_)<;>clear hK K
   ·first|exact trivial|omega|(simp only [ah] at *; omega)|(simp [ah] at *; omega)|simp_all
   refine qd (qa ?_)
   refine ab fun K hK=>aa ae ?_
   simp only [ak,fl,gp,aj,simprocAttr]
   refine af ?_ (hK _ ?_)<;>clear hK K
   ·first|exact trivial|omega|(simp only [ah] at *; omega)|(simp [ah] at *; omega)|simp_all
   refine qa ?_
   refine ⟨i + 1,[0,2],by omega,by omega,?_⟩
   rw [hs]
   simp only [leq,bh,ak,fl,gp,aj,simprocAttr]<;>first|trivial|omega
  (try simp only [aI] at hC2)
  rw [if_neg (by rw [hC2]; simp)] at hs
  refine qh (qd (qa ?_))
  refine ab fun K hK=>aa ae ?_
  simp only [ak,fl,gp,aj,simprocAttr]
  refine af ?_ (hK _ ?_)<;>clear hK K
  ·first|exact trivial|omega|(simp only [ah] at *; omega)|(simp [ah] at *; omega)|simp_all
  refine qa ?_
  refine ⟨i + 1,[0,1],by omega,by omega,?_⟩
  rw [hs,List.append_nil]
  simp only [leq,bh,ak,fl,gp,aj,simprocAttr]<;>first|trivial|omega
 (try simp only [aI] at hC1)
 have hin:i=n:=by omega
 subst hin
 refine nQ 5 1 rfl rfl ?_
 refine qj (qc (qc (qf (qa (qm ?_)))))
 refine ab fun K hK=>aa ae ?_
 simp only [ak,fl,gp,aj,simprocAttr]
 refine af trivial (hK _ ?_)<;>clear hK K
 refine qa (qk ?_)
 simp only [Tryd.results24,cy,ak,fl,gp,aj,simprocAttr]
 all_goals (rfl)
theorem DG (l:List Int) (x:Int) (hl:l.length≤1000000000000000):cL Tryd.prog 29 [.list (il l),.int .i64 x] (.bool (decide (x∈l))):=by
 refine aM ae Tryd.func29 rfl (by kernel_rfl) (by rw [Tryd.ntmps29]; exact Nat.le_add_left 2 _) ?_; rw [Tryd.ntmps29]
 refine qm ?_
 refine ab fun K hK=>aa ae ?_
 simp only [ak,fl,gp,aj,simprocAttr]
 refine af trivial (hK _ ?_)<;>clear hK K
 refine qa (qm (qm ?_))
 refine ab fun K hK=>aa ae ?_
 simp only [ak,fl,gp,aj,simprocAttr]
 refine af trivial (hK _ ?_)<;>clear hK K
 refine qa (ql ?_)
 refine aA (ι:=Nat) (fun i=>⟨18,[(0,.p (.list (il l))),(1,.p (.int .i64 x)),(5,.p (.int .i64 i))],[]⟩) (fun i=>i≤l.length∧∀ j,j < i→l.getD j 0 ≠ x) (fun i=>l.length - i) 0 ⟨Nat.zero_le _,fun j hj=>by omega⟩ [] (by simp only [leq,bh,ak,fl,gp,aj,simprocAttr]<;>trivial) fun i hi=>?_
 obtain ⟨hi1,hi2⟩:=hi
 refine qm (qm ?_)
 refine ab fun K hK=>aa ae ?_
 simp only [ak,fl,gp,aj,simprocAttr]
 refine af trivial (hK _ ?_)<;>clear hK K
 refine qa ?_
 refine an rfl (fun hC1=>?_) (fun hC1=>?_)
 ·(try simp only [aI] at hC1)
  have hlt:i < l.length:=by omega
  refine qh (qa (qm (ql (qm ?_))))
  refine ab fun K hK=>aa ae ?_
  simp only [ak,fl,gp,aj,simprocAttr,aW hlt]
  refine af ?_ (hK _ ?_)<;>clear hK K
  ·first|exact trivial|omega|(simp only [ah] at *; omega)|(simp [ah] at *; omega)|simp_all
  refine qa ?_
  refine an rfl (fun hC2=>?_) (fun hC2=>?_)
  ·(try simp only [aI] at hC2)
   refine qm ?_
   refine ab fun K hK=>aa ae ?_
   simp only [ak,fl,gp,aj,simprocAttr]
   refine af trivial (hK _ ?_)<;>clear hK K
   refine qa (qk (qe (qb (qb (qe (qb ?_))))))
   simp only [Tryd.results29,cy,ak,fl,gp,aj,simprocAttr]
   all_goals (rw [eq_comm]; refine decide_eq_true ?_; rw [← hC2]; simp [List.getD,List.getElem?_eq_getElem hlt])
  (try simp only [aI] at hC2)
  refine qh (qd (qa ?_))
  refine ab fun K hK=>aa ae ?_
  simp only [ak,fl,gp,aj,simprocAttr]
  refine af ?_ (hK _ ?_)<;>clear hK K
  ·first|exact trivial|omega|(simp only [ah] at *; omega)|(simp [ah] at *; omega)|simp_all
  refine qa ?_
  refine ⟨i + 1,[],⟨by omega,fun j hj=>?_⟩,by omega,?_⟩
  ·by_cases hj:j=i
   ·subst hj; exact hC2
   exact hi2 j (by omega)
  simp only [leq,bh,ak,fl,gp,aj,simprocAttr]<;>omega
 (try simp only [aI] at hC1)
 refine qj (qc (qc (qf (qa (qm ?_)))))
 refine ab fun K hK=>aa ae ?_
 simp only [ak,fl,gp,aj,simprocAttr]
 refine af trivial (hK _ ?_)<;>clear hK K
 refine qa (qk ?_)
 simp only [Tryd.results29,cy,ak,fl,gp,aj,simprocAttr]
 all_goals (rw [eq_comm]; refine decide_eq_false fun hm=>?_; obtain ⟨j,hj,e⟩:=List.getElem_of_mem hm; exact hi2 j (by omega) (by simp [List.getD,List.getElem?_eq_getElem hj,e]))
structure GS (S:List Nat) (f:Nat→Nat→Nat) (e:Nat):Prop where
 nd:S.Nodup
 cl:∀ a b,a∈S→b∈S→f a b∈S
 el:e∈S
 one_l:∀ a,a∈S→f e a=a
 one_r:∀ a,a∈S→f a e=a
 assoc:∀ a b c,a∈S→b∈S→c∈S→f (f a b) c=f a (f b c)
 inv:∀ a,a∈S→∃ b,b∈S∧f a b=e∧f b a=e
theorem yq {S:List Nat} (h:S.Nodup) {i j:Nat} (hi:i < S.length) (hj:j < S.length) (he:S.getD i 0=S.getD j 0):i=j:=by
 simp only [List.getD,List.getElem?_eq_getElem hi,List.getElem?_eq_getElem hj,Option.getD_some] at he
 rcases Nat.lt_trichotomy i j with hl | hl | hl
 ·exact absurd he (List.pairwise_iff_getElem.1 h i j hi hj hl)
 ·exact hl
 exact absurd he.symm (List.pairwise_iff_getElem.1 h j i hj hi hl)
section
variable {S:List Nat} {f:Nat→Nat→Nat} {e:Nat}
end
section
variable {n:Nat} {f:Nat→Nat→Nat} {e:Nat}
structure Sub (n:Nat) (f:Nat→Nat→Nat) (e:Nat) (H:Nat→Bool):Prop where
 one:H e=true
 mul:∀ a b,a < n→b < n→H a=true→H b=true→H (f a b)=true
 inv:∀ a,a < n→H a=true→H (iv n f e a)=true
def mem (n:Nat) (H:Nat→Bool):List Nat:=(List.range n).filter H
theorem bg {H:Nat→Bool} {a:Nat} : a∈mem n H↔a < n∧H a=true:=by simp [mem]
theorem Sub.gs {H:Nat→Bool} (G:dF n f e) (h:Sub n f e H):GS (mem n H) f e where
 nd:=List.nodup_range.filter _
 cl a b ha hb:=by
  obtain ⟨a1,a2⟩:=bg.1 ha
  obtain ⟨b1,b2⟩:=bg.1 hb
  exact bg.2 ⟨G.cl a b a1 b1,h.mul a b a1 b1 a2 b2⟩
 el:=bg.2 ⟨G.el,h.one⟩
 one_l a ha:=G.one_l a (bg.1 ha).1
 one_r a ha:=G.one_r a (bg.1 ha).1
 assoc a b c ha hb hc:=G.assoc a b c (bg.1 ha).1 (bg.1 hb).1 (bg.1 hc).1
 inv a ha:=by
  obtain ⟨a1,a2⟩:=bg.1 ha
  exact ⟨iv n f e a,bg.2 ⟨G.az a1,h.inv a a1 a2⟩,G.eC a1,G.eb a1⟩
end
open Go.Pv
inductive ua (n:Nat) (f:Nat→Nat→Nat) (e:Nat) (p:Nat→Bool):Nat→Prop
 | one:ua n f e p e
 | step (a b:Nat):ua n f e p a→b < n→p b=true→ua n f e p (f a b)
section
variable {n:Nat} {f:Nat→Nat→Nat} {e:Nat} {p q:Nat→Bool}
theorem ua.lt (G:dF n f e) {a:Nat} (h:ua n f e p a):a < n:=by
 induction h with
 | one=>exact G.el
 | step a b _ hb _ ih=>exact G.cl a b ih hb
theorem ua.mem (G:dF n f e) {b:Nat} (hb:b < n) (h:p b=true):ua n f e p b:=by
 have:=ua.step (f:=f) e b (ua.one) hb h
 rwa [G.one_l b hb] at this
theorem ua.sub {H:Nat→Bool} (G:dF n f e) (hH:Sub n f e H) (hp:∀ b,b < n→p b=true→H b=true) {a:Nat} (h:ua n f e p a):H a=true:=by
 induction h with
 | one=>exact hH.one
 | step a b ha hb hpb ih=>exact hH.mul a b (ha.lt G) hb ih (hp b hb hpb)
theorem Sub.gen (G:dF n f e) (hp:Sub n f e p) {a:Nat} (ha:a < n):p a=true↔ua n f e p a:=
 ⟨fun h=>ua.mem G ha h,fun h=>ua.sub G hp (fun _ _ h=>h) h⟩
end
end Go.Proofs.YtjlmpmidchddjaaDoor
