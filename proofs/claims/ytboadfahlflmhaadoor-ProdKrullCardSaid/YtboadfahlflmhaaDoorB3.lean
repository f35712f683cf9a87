/-
  Texts of this proof, one behind the other: what each says stands at its head. Conditions: none.
-/
import Derived.Test.YtboadfahlflmhaaDoorB2
import Derived.Test.YtboadfahlflmhaaDoorProg

/-
  Calls that write what is the caller's own: contracts over blocks. Conditions: none; a library text.
-/
set_option linter.all false
namespace Go.Pv
open Go.RowKit

def ancs:Nat→Nat→Heap
 | _,0=>[]
 | k,n + 1=>.anc k k :: ancs (k + 1) n

theorem ancs_get:∀ (n k j:Nat) (b:Blk),(ancs k n)[j]? = some b→j < n∧b = .anc (k + j) (k + j)
 | 0,k,j,b,h=>by simp [ancs] at h
 | n + 1,k,0,b,h=>by simp [ancs] at h; exact ⟨by omega,h.symm⟩
 | n + 1,k,j + 1,b,h=>by
  have:=ancs_get n (k + 1) j b (by simpa [ancs] using h)
  refine ⟨by omega,?_⟩
  rw [this.2,show k + 1 + j=k + (j + 1) by omega]

theorem ancs_at:∀ (n k j:Nat),j < n→(ancs k n)[j]? = some (.anc (k + j) (k + j))
 | n + 1,k,0,_=>rfl
 | n + 1,k,j + 1,h=>by
  rw [show ancs k (n + 1) = .anc k k :: ancs (k + 1) n from rfl,List.getElem?_cons_succ,ancs_at n (k + 1) j (by omega),show k + 1 + j=k + (j + 1) by omega]

def entA:Nat→List AV→List (Nat × AV)
 | _,[]=>[]
 | k,a :: r=>(k,a) :: entA (k + 1) r

theorem entA_lk:∀ (l:List AV) (k t:Nat),lk (entA k l) t=if k≤t then l.getD (t - k) .dead else .dead
 | [],k,t=>by simp [entA,lk]
 | a :: r,k,t=>by
  simp only [entA,lk]
  by_cases h:k=t
  ·subst h; simp
  ·rw [show (k == t)=false by simpa using h]
   simp only [cond_false]
   rw [entA_lk r (k + 1) t]
   by_cases hk:k≤t
   ·rw [if_pos (by omega),if_pos hk,show t - k=(t - (k + 1)) + 1 by omega]; rfl
   ·rw [if_neg (by omega),if_neg hk]

theorem app_get {H X:Heap} {k:Nat} {b:Blk} (h:(H++X)[k]? = some b):(k < H.length∧H[k]? = some b)∨X[k - H.length]? = some b:=by
 by_cases hk:k < H.length
 ·exact .inl ⟨hk,by rwa [List.getElem?_append_left hk] at h⟩
 ·exact .inr (by rwa [List.getElem?_append_right (by omega)] at h)

section
variable {P:Program} {T:TypeId→Option TI} {C:Ctx} {m:Map} {s:St} {tmps:Array Value} {w:World}

theorem Rel.addAnc (R:Rel C m s tmps w) {n:Nat} (hn:n≤s.H.length) (ha:∀ i,i < n→m i=C.anc i):Rel C m { s with H:=s.H++ancs 0 n } tmps w:=by
 have gen:∀ (k:Nat) (b:Blk),(∀ i j,b ≠ .anc i j)→(s.H++ancs 0 n)[k]? = some b→k < s.H.length∧s.H[k]? = some b:=by
  intro k b hb h
  rcases app_get h with h | h
  ·exact h
  ·exact absurd (ancs_get _ _ _ _ h).2 (hb _ _)
 have own:∀ (k:Nat) (c:List AV),(s.H++ancs 0 n)[k]? = some (.own c)→k < s.H.length∧s.H[k]? = some (.own c):=fun k c h=>gen k _ (fun _ _ h=>by cases h) h
 have mps:∀ (k:Nat) (kk:IntKind) (d:Int→Bool) (v:Int→PV),(s.H++ancs 0 n)[k]? = some (Blk.mp kk d v)→k < s.H.length∧s.H[k]? = some (Blk.mp kk d v):=fun k _ _ _ h=>gen k _ (fun _ _ h=>by cases h) h
 have ho:∀ b,OK C m s.H w b→OK C m (s.H++ancs 0 n) w b:=fun b h=>⟨h.1,h.2.1,fun k c l hk hl=>h.2.2 k c l (own k c hk).2 hl⟩
 have hlen:s.H.length≤(s.H++ancs 0 n).length:=by simp
 have rd:∀ p v,Reads (OK C m s.H w) w p v→Reads (OK C m (s.H++ancs 0 n) w) w p v:=fun p v h=>h.mono ho
 refine ⟨R.laid.ext rd,R.below,R.base,R.size,fun k k' c c' l l' h1 h2=>R.inj k k' c c' l l' (own k c h1).2 (own k' c' h2).2,fun k c h=>(R.blk k c (own k c h).2).ext rd hlen (fun _ _=>rfl) rfl fun _ _=>rfl,
  fun k c h=>(R.fro k c (gen k _ (fun _ _ h=>by cases h) h).2).ext ho (fun _ _=>rfl) rfl,fun t=>(R.slot t).ext rd hlen fun _ _=>rfl,fun k kk d v h=>(R.mp.1 k kk d v (mps k kk d v h).2).ext ho (fun _ _=>rfl) rfl fun _ _=>rfl,
  fun k k' kk d v kk' d' v' l l' h1 h2=>R.mp.2.1 k k' kk d v kk' d' v' l l' (mps _ _ _ _ h1).2 (mps _ _ _ _ h2).2,fun k i j h=>?_,R.mp.2.2.2.ext id (fun k r h=>⟨(gen k _ (fun _ _ h=>by cases h) h).2,rfl⟩) (fun _ _ _ _ _ _ h=>h) (fun _ _ _ _ _ _=>rfl) fun _ _ _ _ _ h=>h⟩
 rcases app_get h with h | h
 ·obtain ⟨a1,a2⟩:=R.mp.2.2.1 k i j h.2
  exact ⟨by simp; omega,a2⟩
 ·obtain ⟨a1,a2⟩:=ancs_get _ _ _ _ h
  cases a2
  refine ⟨by simp; omega,?_⟩
  rw [ha _ (by omega)]

/-! ### The contract -/

/-- A CONTRACT OVER BLOCKS: called with values that are so over such blocks of the caller's own, the function returns so, over those blocks as they are then, and new ones. -/
def FnM (P:Program) (f:FuncId) (args:List AV) (H0:Heap) (r:AV) (H1:Heap):Prop:=
 Fun P f∧∀ (C:Ctx) (m:Map) (w:World) (vals:Array Value),Rel C m ⟨args.length,entA 0 args,H0++ancs 0 H0.length⟩ vals w →
  Calls P f vals w fun e w'=>∃ v m',e = .returned v∧Rel C m' ⟨1,[(0,r)],H1++ancs 0 H0.length⟩ #[v] w'

/-! ### Who calls it -/

theorem AVal.sig {rd rd' : PV→Value→Prop} {m m2:Map} {H H2:Heap} {σ:List Nat} (h1:∀ p v,rd p v→rd' p v) (hs:∀ k,k < σ.length→σ.getD k 0 < H2.length∧m2 (σ.getD k 0)=m k) {x:AV} {v:Value} (h:AVal rd m H x v)
  (hx:scA σ.length x=true):AVal rd' m2 H2 (Go.Pv.ren σ x) v:=by
 have one:∀ {x:AV} {v:Value},AVal rd m H x v→sc1 σ.length x=true→AVal rd' m2 H2 (ren1 σ x) v:=by
  intro x v h hsc
  cases h with
  | dead v=>exact .dead v
  | p pv v h=>exact .p pv v (h1 _ _ h)
  | sl k lo len v hk h =>
   obtain ⟨g1,g2⟩:=hs k (by simpa [sc1] using hsc)
   refine .sl _ lo len v g1 ?_
   unfold SlOk at *
   rw [g2]; exact h
  | ptr k i v hk h =>
   obtain ⟨g1,g2⟩:=hs k (by simpa [sc1] using hsc)
   refine .ptr _ i v g1 ?_
   unfold PtrOk at *
   rw [g2]; exact h
  | agg l vs hl hr=>simp [sc1] at hsc
  | tup l vs hl hr=>simp [sc1] at hsc
  | cl f l vs hl hr=>simp [sc1] at hsc
  | itv r=>exact .itv r
  | mptr k v hk h =>
   obtain ⟨g1,g2⟩:=hs k (by simpa [sc1] using hsc)
   refine .mptr _ v g1 ?_
   unfold MptrOk at *
   rw [g2]; exact h
  | yv k l vs v hk h hl hr=>simp [sc1] at hsc
 cases x with
 | agg l =>
  cases h with
  | agg _ vs hl hr =>
   refine .agg _ vs (by simpa using hl) fun c hc=>?_
   rw [List.length_map] at hc
   rw [List.getElem_map]
   exact one (hr c hc) ((List.all_eq_true.1 hx) _ (List.getElem_mem hc))
 | tup l =>
  cases h with
  | tup _ vs hl hr =>
   refine .tup _ vs (by simpa using hl) fun c hc=>?_
   rw [List.length_map] at hc
   rw [List.getElem_map]
   exact one (hr c hc) ((List.all_eq_true.1 hx) _ (List.getElem_mem hc))
 | cl f l =>
  cases h with
  | cl _ _ vs hl hr =>
   refine .cl _ _ vs (by simpa using hl) fun c hc=>?_
   rw [List.length_map] at hc
   rw [List.getElem_map]
   exact one (hr c hc) ((List.all_eq_true.1 hx) _ (List.getElem_mem hc))
 | yv k l vs =>
  simp only [scA,Bool.and_eq_true,decide_eq_true_eq] at hx
  cases h with
  | yv _ _ _ _ hk h hl hr =>
   obtain ⟨g1,g2⟩:=hs k hx.1
   refine .yv _ _ vs v g1 ?_ (by simpa using hl) fun c hc=>?_
   ·unfold YvOk at *
    rw [g2]; exact h
   ·rw [List.length_map] at hc
    rw [List.getElem_map]
    exact one (hr c hc) ((List.all_eq_true.1 hx.2) _ (List.getElem_mem hc))
 | dead=>exact one h hx
 | p pv=>exact one h hx
 | sl k lo len=>exact one h hx
 | ptr k i=>exact one h hx
 | mptr k=>exact one h hx
 | itv r=>exact one h hx

/-- Blocks put back: those that were lent, in their places; new ones behind. -/
def putM:Heap→List Nat→Heap→Heap
 | H,[],bs=>H++bs
 | H,_ :: _,[]=>H
 | H,k :: ks,b :: bs=>putM (hset H k b) ks bs

theorem putM_get:∀ (ks:List Nat) (bs H:Heap) (k:Nat) (b:Blk),(∀ k∈ks,k < H.length)→ks.length≤bs.length→(putM H ks bs)[k]? = some b →
  (∃ j:Nat,bs[j]? = some b∧(ks++List.range' H.length (bs.length - ks.length))[j]? = some k)∨(k < H.length∧k ∉ ks∧H[k]? = some b)
 | [],bs,H,k,b,_,_,h=>by
  simp only [putM] at h
  by_cases hk:k < H.length
  ·exact .inr ⟨hk,by simp,by rwa [List.getElem?_append_left hk] at h⟩
  ·rw [List.getElem?_append_right (by omega)] at h
   ·refine .inl ⟨k - H.length,h,?_⟩
    have:=(List.getElem?_eq_some_iff.1 h).1
    simp only [List.nil_append,List.length_nil,Nat.sub_zero]
    rw [List.getElem?_range' this]
    simp; omega
 | k0 :: ks,[],H,k,b,_,hl,_=>by simp at hl
 | k0 :: ks,b0 :: bs,H,k,b,hk,hl,h=>by
  simp only [putM] at h
  have h0:=hk k0 (by simp)
  rcases putM_get ks bs (hset H k0 b0) k b (fun k hk'=>by rw [hset_length]; exact hk k (by simp [hk'])) (by simpa using hl) h with ⟨j,h1,h2⟩ | ⟨h1,h2,h3⟩
  ·rw [hset_length] at h2
   exact .inl ⟨j + 1,by simpa using h1,by simpa using h2⟩
  ·rw [hset_get] at h3
   rw [hset_length] at h1
   by_cases e:k=k0
   ·subst e
    rw [if_pos ⟨rfl,h0⟩] at h3
    exact .inl ⟨0,by simpa using h3,by simp⟩
   ·rw [if_neg (by simp [e])] at h3
    exact .inr ⟨h1,by simp [e,h2],h3⟩

theorem putM_length:∀ (ks:List Nat) (bs H:Heap),ks.length≤bs.length→(putM H ks bs).length=H.length + (bs.length - ks.length)
 | [],bs,H,_=>by simp [putM]
 | k0 :: ks,[],H,hl=>by simp at hl
 | k0 :: ks,b0 :: bs,H,hl=>by
  simp only [putM]
  rw [putM_length ks bs _ (by simpa using hl),hset_length]; simp

/-- Maps stay maps. -/
def mpKeep:Heap→Heap→Bool
 | .mp _ _ _ :: r,.mp _ _ _ :: t=>mpKeep r t
 | .mp _ _ _ :: _,_=>false
 | .lp _ :: r,.lp _ :: t=>mpKeep r t
 | .lp _ :: _,_=>false
 | _ :: r,_ :: t=>mpKeep r t
 | [],_=>true
 | _ :: _,[]=>false

theorem mpKeep_get:∀ {H0 H1:Heap},mpKeep H0 H1=true→∀ (j:Nat) (kk:IntKind) (d:Int→Bool) (v:Int→PV),H0[j]? = some (.mp kk d v)→∃ kk' d' v',H1[j]? = some (.mp kk' d' v')
 | [],_,_,j,_,_,_,h=>by simp at h
 | b :: r,[],hm,_,_,_,_,_=>by cases b<;>simp [mpKeep] at hm
 | b :: r,b' :: t,hm,0,kk,d,v,h=>by
  simp at h; subst h
  cases b'<;>simp [mpKeep] at hm
  exact ⟨_,_,_,rfl⟩
 | b :: r,b' :: t,hm,j + 1,kk,d,v,h=>by
  have hm2:mpKeep r t=true:=by cases b<;>cases b'<;>simp [mpKeep] at hm<;>exact hm
  simpa using mpKeep_get hm2 j kk d v (by simpa using h)
theorem mpKeep_lp:∀ {H0 H1:Heap},mpKeep H0 H1=true→∀ (j:Nat) (r0:Loop),H0[j]? = some (.lp r0)→∃ r1,H1[j]? = some (.lp r1)
 | [],_,_,j,_,h=>by simp at h
 | b :: r,[],hm,_,_,_=>by cases b<;>simp [mpKeep] at hm
 | b :: r,b' :: t,hm,0,r0,h=>by
  simp at h; subst h
  cases b'<;>simp [mpKeep] at hm
  exact ⟨_,rfl⟩
 | b :: r,b' :: t,hm,j + 1,r0,h=>by
  have hm2:mpKeep r t=true:=by cases b<;>cases b'<;>simp [mpKeep] at hm<;>exact hm
  simpa using mpKeep_lp hm2 j r0 (by simpa using h)

def scM (av:AV) (H0 H1:Heap):Bool:=
 scA H1.length av && H1.all (fun | .own c=>c.all (scA H1.length) | .anc _ _=>false | _=>true) && decide (H0.length≤H1.length) && mpKeep H0 H1 && H0.all notAnc

/-- The frame of who is called with blocks that are lent. -/
def subC (C:Ctx) (m:Map) (H:Heap) (ks:List Nat) (H0:Heap) (w:World):Ctx:=
 ⟨fun b=>OK C m H w b,fun b=>w.heap.size≤b∨∃ (j:Nat) (b0:Blk) (l:Loc),H0[j]? = some b0∧b0.wr=true∧mren m ks j=some l∧l.g=b,w,mren m ks⟩

theorem Rel.wrLt (R:Rel C m s tmps w) {k:Nat} {b:Blk} (hb:s.H[k]? = some b) (hw:b.wr=true) {l:Loc} (hl:m k=some l):C.B l.g∧l.g < w.heap.size:=by
 cases b with
 | own c =>
  rcases R.blk k c hb with ⟨_,hn⟩ | ⟨l',cur,e,a1,a2,a3,_⟩
  ·rw [hl] at hn; cases hn
  ·rw [hl] at a1; cases a1
   exact ⟨a2,(Array.getElem?_eq_some_iff.1 a3).1⟩
 | mp kk d v =>
  obtain ⟨l',ar,clk,vs,a1,a2,a3,_⟩:=R.mp.1 k kk d v hb
  rw [hl] at a1; cases a1
  exact ⟨a2,(Array.getElem?_eq_some_iff.1 a3).1⟩
 | lp r =>
  obtain ⟨l',a1,a2,a3⟩:=R.mp.2.2.2.1 k r hb
  rw [hl] at a1; cases a1
  exact ⟨a2,(Array.getElem?_eq_some_iff.1 a3).1⟩
 | _=>cases hw

theorem Rel.inj2 (R:Rel C m s tmps w) {k k' : Nat} {b b' : Blk} (hb:s.H[k]? = some b) (hw:b.wr=true) (hb' : s.H[k']? = some b') (hw' : b'.wr=true) {l l' : Loc} (hl:m k=some l) (hl' : m k' = some l') (e:l.g=l'.g):k=k':=by
 cases b with
 | own c =>
  cases b' with
  | own c'=>exact R.inj k k' c c' l l' hb hb' hl hl' e
  | mp kk d v=>exact absurd e ((R.mpOK hb' hl').2.2 k c l hb hl)
  | lp r=>exact absurd e ((R.lpOK hb' hl').2.2 k c l hb hl)
  | _=>cases hw'
 | mp kk d v =>
  cases b' with
  | own c'=>exact absurd e.symm ((R.mpOK hb hl).2.2 k' c' l' hb' hl')
  | mp kk' d' v'=>exact R.mp.2.1 _ _ _ _ _ _ _ _ _ _ hb hb' hl hl' e
  | lp r =>
   exfalso
   obtain ⟨l1,ar,clk,vs,a1,a2,a3,_⟩:=R.mp.1 k kk d v hb
   obtain ⟨l2,b1,b2,b3⟩:=R.mp.2.2.2.1 k' r hb'
   rw [hl] at a1; cases a1
   rw [hl'] at b1; cases b1
   rw [e,b3] at a3; cases a3
  | _=>cases hw'
 | lp r =>
  cases b' with
  | own c'=>exact absurd e.symm ((R.lpOK hb hl).2.2 k' c' l' hb' hl')
  | mp kk d v =>
   exfalso
   obtain ⟨l1,ar,clk,vs,a1,a2,a3,_⟩:=R.mp.1 k' kk d v hb'
   obtain ⟨l2,b1,b2,b3⟩:=R.mp.2.2.2.1 k r hb
   rw [hl'] at a1; cases a1
   rw [hl] at b1; cases b1
   rw [e,a3] at b3; cases b3
  | lp r'=>exact R.mp.2.2.2.2 _ _ _ _ _ _ hb hb' hl hl' e
  | _=>cases hw'
 | _=>cases hw

theorem LeH.wr {π:List Nat} {H H1:Heap} (h3:LeH π H π H1) {j:Nat} {b0:Blk} (h:H1[j]? = some b0) (hw:b0.wr=true):∃ k' b,π[j]? = some k'∧H[k']? = some b∧b.wr=true∧((∃ c,b0 = .own c)→∃ c,b = .own c)∧((∃ kk d v,b0 = .mp kk d v)→∃ kk d v,b = .mp kk d v):=by
 obtain ⟨g1,g2⟩:=h3.get
 cases b0 with
 | own c =>
  obtain ⟨k',d,a1,a2,_⟩:=LeH.own g2 j c h
  exact ⟨k',_,a1,a2,rfl,(fun _=>⟨_,rfl⟩),fun ⟨_,_,_,h⟩=>by cases h⟩
 | mp kk d v =>
  obtain ⟨k',a,b⟩:=g2 j _ h
  exact ⟨k',_,a,hget_some b (by simp),rfl,(fun ⟨_,h⟩=>by cases h),fun _=>⟨_,_,_,rfl⟩⟩
 | lp r =>
  obtain ⟨k',a,b⟩:=g2 j _ h
  exact ⟨k',_,a,hget_some b (by simp),rfl,(fun ⟨_,h⟩=>by cases h),fun ⟨_,_,_,h⟩=>by cases h⟩
 | _=>cases hw

/-- Blocks that are gone. -/
def kills (H:Heap):List Nat→Heap
 | []=>H
 | k :: ks=>kills (hset H k .dead) ks
theorem kills_length:∀ (ks:List Nat) (H:Heap),(kills H ks).length=H.length
 | [],H=>rfl
 | k :: ks,H=>by rw [kills,kills_length ks,hset_length]
theorem kills_get:∀ (ks:List Nat) (H:Heap) {k:Nat} {b:Blk},(kills H ks)[k]? = some b→(k∈ks∧b = .dead)∨(k ∉ ks∧H[k]? = some b)
 | [],H,k,b,h=>.inr ⟨by simp,h⟩
 | k0 :: ks,H,k,b,h=>by
  rcases kills_get ks _ h with ⟨h1,h2⟩ | ⟨h1,h2⟩
  ·exact .inl ⟨by simp [h1],h2⟩
  ·rw [hset_get] at h2
   by_cases e:k=k0∧k0 < H.length
   ·rw [if_pos e] at h2; exact .inl ⟨by simp [e.1],(Option.some.inj h2).symm⟩
   ·rw [if_neg e] at h2
    by_cases e2:k=k0
    ·have:=(List.getElem?_eq_some_iff.1 h2).1
     exact absurd ⟨e2,by omega⟩ e
    ·exact .inr ⟨by simp [e2,h1],h2⟩

/-- What must be so of what comes back, where the first q blocks stay in their places. -/
def scQ (q:Nat) (av:AV) (H0 H1:Heap):Bool:=
 scA H1.length av && H1.all (fun | .own c=>c.all (scA H1.length) | .anc _ _=>false | _=>true) && decide (q≤H1.length) && decide (q≤H0.length) && mpKeep (H0.take q) H1 && (H0.drop q).all (fun b=>!b.spc) && H0.all notAnc

theorem Rel.joinQ (R:Rel C m s tmps w) {q:Nat} {ks:List Nat} {H0 H1:Heap} {r:AV} {w' : World} {v:Value} {m' : Map} (hle:LeH ks s.H ks H0) (hks:∀ k∈ks,k < s.H.length) (R1:Rel (subC C m s.H ks H0 w) m' ⟨1,[(0,r)],H1++ancs 0 q⟩ #[v] w') (hsc:scQ q r H0 H1=true) :
  ∃ m2,Rel C m2 { s with H:=putM (kills s.H (ks.drop q)) (ks.take q) (H1.map (Blk.ren (ks.take q++List.range' s.H.length (H1.length - q)))) } tmps w' ∧
   AVal (Reads (OK C m2 (putM (kills s.H (ks.drop q)) (ks.take q) (H1.map (Blk.ren (ks.take q++List.range' s.H.length (H1.length - q))))) w') w') m2 (putM (kills s.H (ks.drop q)) (ks.take q) (H1.map (Blk.ren (ks.take q++List.range' s.H.length (H1.length - q))))) (Go.Pv.ren (ks.take q++List.range' s.H.length (H1.length - q)) r) v∧∀ k,k < s.H.length→m2 k=m k:=by
 obtain ⟨g1,g2⟩:=hle.get
 unfold scQ at hsc
 rw [Bool.and_eq_true,Bool.and_eq_true,Bool.and_eq_true,Bool.and_eq_true,Bool.and_eq_true,Bool.and_eq_true,decide_eq_true_eq,decide_eq_true_eq] at hsc
 obtain ⟨⟨⟨⟨⟨⟨s1,s2⟩,s3⟩,s6⟩,s4⟩,s7⟩,s5⟩:=hsc
 have hn:q≤H1.length:=s3
 have hqk:q≤ks.length:=by omega
 have hkt:∀ k∈ks.take q,k∈ks:=fun k h=>List.mem_of_mem_take h
 have htl:(ks.take q).length=q:=by rw [List.length_take]; omega
 generalize hσe:ks.take q++List.range' s.H.length (H1.length - q)=σ
 have hσlen:σ.length=H1.length:=by rw [← hσe,List.length_append,htl,List.length_range']; omega
 generalize hH2:putM (kills s.H (ks.drop q)) (ks.take q) (H1.map (Blk.ren σ))=H2
 have hlen2:H2.length=s.H.length + (H1.length - q):=by rw [← hH2,putM_length _ _ _ (by rw [htl,List.length_map]; exact hn),kills_length,htl]; simp
 
 have hm1:∀ j,j < q→m' j=mren m ks j:=fun j hj=>by
  have h:(H1++ancs 0 q)[H1.length + j]? = some (.anc j j):=by
   rw [List.getElem?_append_right (by omega),Nat.add_sub_cancel_left,ancs_at _ _ _ hj,Nat.zero_add]
  exact (R1.mp.2.2.1 _ _ _ h).2
 obtain ⟨m2,hm2⟩:∃ m2:Map,m2=fun k=>if k < s.H.length then m k else m' (q + (k - s.H.length)):=⟨_,rfl⟩
 have hmo:∀ k,k < s.H.length→m2 k=m k:=fun k h=>by rw [hm2]; simp [h]
 have hσ:∀ (j k:Nat),σ[j]? = some k→k < H2.length∧m2 k=m' j:=by
  intro j k h
  rw [← hσe] at h
  by_cases hj:j < q
  ·rw [List.getElem?_append_left (by omega)] at h
   rw [List.getElem?_take,if_pos hj] at h
   have hk:=hks k (List.mem_of_getElem? h)
   refine ⟨by omega,?_⟩
   rw [hmo k hk,hm1 j (by omega)]
   simp only [mren,h,Option.bind_some]
  ·rw [List.getElem?_append_right (by omega),htl] at h
   have hj2:j - q < H1.length - q:=by
    have:=(List.getElem?_eq_some_iff.1 h).1
    simpa using this
   rw [List.getElem?_range' hj2] at h
   simp only [Option.some.injEq,Nat.one_mul] at h
   subst h
   refine ⟨by omega,?_⟩
   rw [hm2]
   simp only
   rw [if_neg (by omega)]
   congr 1
   omega
 have hσ2:∀ k,k < σ.length→σ.getD k 0 < H2.length∧m2 (σ.getD k 0)=m' k:=fun k hk=>by
  have:σ[k]? = some (σ.getD k 0):=by simp [List.getD,List.getElem?_eq_getElem hk]
  exact hσ k _ this
 have hget:∀ (k:Nat) (b:Blk),H2[k]? = some b→(∃ (j:Nat) (b' : Blk),H1[j]? = some b'∧b=b'.ren σ∧σ[j]? = some k)∨(k < s.H.length∧k ∉ ks∧s.H[k]? = some b)∨b = .dead:=by
  intro k b h
  rw [← hH2] at h
  rcases putM_get (ks.take q) _ (kills s.H (ks.drop q)) k b (fun k hk=>by rw [kills_length]; exact hks k (hkt k hk)) (by rw [htl,List.length_map]; exact hn) h with ⟨j,h1,h2⟩ | ⟨h1,h2,h3⟩
  ·rw [List.length_map,htl,kills_length,hσe] at h2
   rw [List.getElem?_map] at h1
   cases e:H1[j]? with
   | none=>rw [e] at h1; cases h1
   | some b'=>rw [e] at h1; exact .inl ⟨j,b',e,(Option.some.inj h1).symm,h2⟩
  ·rcases kills_get _ _ h3 with ⟨_,e⟩ | ⟨g3,g4⟩
   ·exact .inr (.inr e)
   ·refine .inr (.inl ⟨by rw [kills_length] at h1; exact h1,fun hk=>?_,g4⟩)
    rw [← List.take_append_drop q ks] at hk
    rcases List.mem_append.1 hk with hk | hk
    ·exact h2 hk
    ·exact g3 hk
 have hHc:∀ (j:Nat) (b:Blk),H1[j]? = some b→(H1++ancs 0 q)[j]? = some b:=fun j b h=>by
  rw [List.getElem?_append_left (List.getElem?_eq_some_iff.1 h).1]; exact h
 have hown:∀ (k:Nat) (c:List AV),H2[k]? = some (.own c)→(∃ (j:Nat) (c' : List AV),H1[j]? = some (.own c')∧c=c'.map (Go.Pv.ren σ)∧σ[j]? = some k)∨(k < s.H.length∧k ∉ ks∧s.H[k]? = some (.own c)):=by
  intro k c h
  rcases hget k _ h with ⟨j,b',h1,h2,h3⟩ | h | h
  ·cases b' with
   | own c'=>simp only [Blk.ren,Blk.own.injEq] at h2; exact .inl ⟨j,c',h1,h2,h3⟩
   | _=>cases h2
  ·exact .inr h
  ·cases h
 have hmps:∀ (k:Nat) (kk:IntKind) (d:Int→Bool) (vv:Int→PV),H2[k]? = some (.mp kk d vv)→(∃ j:Nat,H1[j]? = some (.mp kk d vv)∧σ[j]? = some k)∨(k < s.H.length∧k ∉ ks∧s.H[k]? = some (.mp kk d vv)):=by
  intro k kk d vv h
  rcases hget k _ h with ⟨j,b',h1,h2,h3⟩ | h | h
  ·cases b' with
   | mp kk' d' v'=>simp only [Blk.ren,Blk.mp.injEq] at h2; obtain ⟨rfl,rfl,rfl⟩:=h2; exact .inl ⟨j,h1,h3⟩
   | _=>cases h2
  ·exact .inr h
  ·cases h
 have hfro:∀ (k:Nat) (c:List PV),H2[k]? = some (.fro c)→(∃ j:Nat,H1[j]? = some (.fro c)∧σ[j]? = some k)∨(k < s.H.length∧k ∉ ks∧s.H[k]? = some (.fro c)):=by
  intro k c h
  rcases hget k _ h with ⟨j,b',h1,h2,h3⟩ | h | h
  ·cases b' with
   | fro c'=>simp only [Blk.ren,Blk.fro.injEq] at h2; subst h2; exact .inl ⟨j,h1,h3⟩
   | _=>cases h2
  ·exact .inr h
  ·cases h
 have lent:∀ (j:Nat) (b0:Blk) (l:Loc),H0[j]? = some b0→b0.wr=true→mren m ks j=some l→∃ k' b,k'∈ks∧s.H[k']? = some b∧b.wr=true∧m k' = some l∧((∃ c,b0 = .own c)→∃ c,b = .own c)∧((∃ kk d v,b0 = .mp kk d v)→∃ kk d v,b = .mp kk d v):=by
  intro j b0 l h hw hl
  obtain ⟨k',b,a1,a2,a3,a4,a5⟩:=hle.wr h hw
  simp only [mren,a1,Option.bind_some] at hl
  exact ⟨k',b,List.mem_of_getElem? a1,a2,a3,hl,a4,a5⟩
 have hB1:∀ b,(subC C m s.H ks H0 w).B b→C.B b:=by
  intro b hb
  rcases hb with hb | ⟨j,b0,l,h1,h2,h3,rfl⟩
  ·exact R.base b hb
  ·obtain ⟨k',b,_,a2,a3,a4,_⟩:=lent j b0 l h1 h2 h3
   exact (R.wrLt a2 a3 a4).1
 have hBx:∀ (k:Nat) (b:Blk) (l:Loc),k ∉ ks→s.H[k]? = some b→b.wr=true→m k=some l→¬ (subC C m s.H ks H0 w).B l.g:=by
  intro k b l hk hb hw hl hB
  rcases hB with hB | ⟨j,b0,l0,h1,h2,h3,h4⟩
  ·have:=(R.wrLt hb hw hl).2
   omega
  ·obtain ⟨k',b',a1,a2,a3,a4,_⟩:=lent j b0 l0 h1 h2 h3
   have:=R.inj2 hb hw a2 a3 hl a4 h4.symm
   subst this
   exact hk a1
 have hcell:∀ b o x,OK C m s.H w b→w.cell? ⟨b,o,none⟩=some x→w'.cell? ⟨b,o,none⟩=some x:=by
  intro b o x hb hc
  by_cases hB:(subC C m s.H ks H0 w).B b
  ·exfalso
   rcases hB with hB | ⟨j,b0,l0,h1,h2,h3,h4⟩
   ·have:=hb.2.1; omega
   ·obtain ⟨k',b',a1,a2,a3,a4,_⟩:=lent j b0 l0 h1 h2 h3
    cases b' with
    | own c=>exact hb.2.2 k' c l0 a2 a4 h4
    | mp kk d vv =>
     obtain ⟨l',ar,clk,vs,c1,c2,c3,_⟩:=R.mp.1 k' kk d vv a2
     rw [a4] at c1; cases c1
     rw [h4] at c3
     unfold World.cell? at hc
     simp only [c3] at hc
     first|cases hc|simp at hc
    | lp rr =>
     obtain ⟨l',c1,c2,c3⟩:=R.mp.2.2.2.1 k' rr a2
     rw [a4] at c1; cases c1
     rw [h4] at c3
     unfold World.cell? at hc
     simp only [c3] at hc
     first|cases hc|simp at hc
    | _=>cases a3
  ·rw [World.cell?_of_block (w:=w) (R1.below.block b hB)]; exact hc
 have hOK:∀ b,OK (subC C m s.H ks H0 w) m' (H1++ancs 0 q) w' b→OK C m2 H2 w' b:=by
  intro b hb
  refine ⟨?_,hb.2.1,fun k c l h hl=>?_⟩
  ·rcases hb.1 with h | h
   ·exact h.1
   ·exact .inr (hB1 b h)
  ·rcases hown k c h with ⟨j,c',h1,_,h3⟩ | ⟨h1,h2,h3⟩
   ·rw [(hσ j k h3).2] at hl
    exact hb.2.2 j c' l (hHc _ _ h1) hl
   ·rw [hmo k h1] at hl
    rcases hb.1 with h' | h'
    ·exact h'.2.2 k c l h3 hl
    ·intro e
     exact hBx k _ l h2 h3 rfl hl (by rw [e]; exact h')
 have hsp:∀ (j:Nat) (b:Blk),H0[j]? = some b→b.spc=true→j < q:=fun j b h hb=>by
  refine Nat.lt_of_not_le fun hq=>?_
  have h2:(H0.drop q)[j - q]? = some b:=by rw [List.getElem?_drop,show q + (j - q)=j by omega]; exact h
  have:=(List.all_eq_true.1 s7) _ (List.mem_of_getElem? h2)
  rw [hb] at this; cases this
 have ho1:∀ b,OK C m s.H w b→OK C m2 H2 w' b:=by
  intro b hb
  refine ⟨hb.1,Nat.lt_of_lt_of_le hb.2.1 R1.below.size,fun k c l h hl e=>?_⟩
  rcases hown k c h with ⟨j,c',h1,_,h3⟩ | ⟨h1,h2,h3⟩
  ·rw [(hσ j k h3).2] at hl
   rcases (R1.wrLt (hHc _ _ h1) rfl hl).1 with hB | ⟨j0,b0,l0,a1,a2,a3,a4⟩
   ·have:=hb.2.1; omega
   ·obtain ⟨k',b',d1,d2,d3,d4,d5,d6⟩:=lent j0 b0 l0 a1 a2 a3
    cases b0 with
    | own c0 =>
     obtain ⟨c1,rfl⟩:=d5 ⟨_,rfl⟩
     exact hb.2.2 k' c1 l0 d2 d4 (by rw [a4,e])
    | mp kk d vv =>
     have hj0:=hsp j0 _ a1 rfl
     obtain ⟨kk',d',v',f1⟩:=mpKeep_get s4 j0 kk d vv (by rw [List.getElem?_take,if_pos hj0]; exact a1)
     have f2:m' j0=some l0:=by rw [hm1 j0 hj0]; exact a3
     exact (R1.mpOK (hHc _ _ f1) f2).2.2 j c' l (hHc _ _ h1) hl a4.symm
    | lp rr =>
     have hj0:=hsp j0 _ a1 rfl
     obtain ⟨r1,f1⟩:=mpKeep_lp s4 j0 rr (by rw [List.getElem?_take,if_pos hj0]; exact a1)
     have f2:m' j0=some l0:=by rw [hm1 j0 hj0]; exact a3
     exact (R1.lpOK (hHc _ _ f1) f2).2.2 j c' l (hHc _ _ h1) hl a4.symm
    | _=>cases a2
  ·rw [hmo k h1] at hl
   exact hb.2.2 k c l h3 hl e
 have rd1:∀ p x,Reads (OK C m s.H w) w p x→Reads (OK C m2 H2 w') w' p x:=fun p x h=>h.extc ho1 hcell
 have rd2:∀ p x,Reads (OK (subC C m s.H ks H0 w) m' (H1++ancs 0 q) w') w' p x→Reads (OK C m2 H2 w') w' p x:=fun p x h=>h.mono hOK
 have hlen3:s.H.length≤H2.length:=by omega
 have sall:∀ (j:Nat) (b:Blk),H1[j]? = some b→(match b with | .own c=>c.all (scA H1.length) | .anc _ _=>false | _=>true)=true:=fun j b h=>by
  have:=(List.all_eq_true.1 s2) _ (List.mem_of_getElem? h)
  cases b<;>exact this
 refine ⟨m2,⟨R.laid.ext rd1,R.below.trans ⟨R1.below.os,R1.below.tape,R1.below.output,R1.below.size,fun k hk=>R1.below.block k fun h=>hk (hB1 k h),R1.below.dr⟩,fun b h=>R.base b (Nat.le_trans R1.below.size h),R.size,?_,?_,?_,fun t=>?_,?_,?_,?_,?_⟩,?_,hmo⟩
 ·intro k k' c c' l l' h1 h2 h3 h4 h5
  rcases hown k c h1 with ⟨j,d,a1,_,a3⟩ | ⟨a1,a2,a3⟩<;>rcases hown k' c' h2 with ⟨j',d',b1,_,b3⟩ | ⟨b1,b2,b3⟩
  ·rw [(hσ _ _ a3).2] at h3; rw [(hσ _ _ b3).2] at h4
   have:=R1.inj j j' d d' l l' (hHc _ _ a1) (hHc _ _ b1) h3 h4 h5
   subst this
   rw [a3] at b3
   exact Option.some.inj b3
  ·rw [(hσ _ _ a3).2] at h3; rw [hmo _ b1] at h4
   exact absurd (by rw [← h5]; exact (R1.wrLt (hHc _ _ a1) rfl h3).1) (hBx k' _ l' b2 b3 rfl h4)
  ·rw [hmo _ a1] at h3; rw [(hσ _ _ b3).2] at h4
   exact absurd (by rw [h5]; exact (R1.wrLt (hHc _ _ b1) rfl h4).1) (hBx k _ l a2 a3 rfl h3)
  ·rw [hmo _ a1] at h3; rw [hmo _ b1] at h4
   exact R.inj k k' c c' l l' a3 b3 h3 h4 h5
 ·intro k c h
  rcases hown k c h with ⟨j,c',a1,rfl,a3⟩ | ⟨a1,a2,a3⟩
  ·rcases R1.blk j c' (hHc _ _ a1) with ⟨e,hn⟩ | ⟨l,cur,e,b1,b2,b3,b4,b5,b6,b7⟩
   ·exact .inl ⟨by rw [e]; rfl,by rw [(hσ _ _ a3).2]; exact hn⟩
   ·refine .inr ⟨l,cur,e,by rw [(hσ _ _ a3).2]; exact b1,hB1 _ b2,b3,b4,b5,by simpa using b6,fun i hi=>?_⟩
    rw [List.length_map] at hi
    rw [List.getElem_map]
    have hs:scA σ.length c'[i]=true:=by
     rw [hσlen]
     exact (List.all_eq_true.1 (sall j _ a1)) _ (List.getElem_mem hi)
    exact (b7 i hi).sig rd2 hσ2 hs
  ·refine (R.blk k c a3).ext rd1 hlen3 hmo (hmo k a1) fun l hl=>R1.below.block _ (hBx k _ l a2 a3 rfl hl)
 ·intro k c h
  rcases hfro k c h with ⟨j,a1,a3⟩ | ⟨a1,a2,a3⟩
  ·rcases R1.fro j c (hHc _ _ a1) with ⟨e1,e2⟩ | ⟨l,vs,e1,e2,e3,e4⟩
   ·exact .inl ⟨e1,by rw [(hσ _ _ a3).2]; exact e2⟩
   ·exact .inr ⟨l,vs,by rw [(hσ _ _ a3).2]; exact e1,hOK _ e2,e3,fun i hi=>⟨(e4 i hi).1,rd2 _ _ (e4 i hi).2⟩⟩
  ·rcases R.fro k c a3 with ⟨e1,e2⟩ | ⟨l,vs,e1,e2,e3,e4⟩
   ·exact .inl ⟨e1,by rw [hmo k a1]; exact e2⟩
   ·exact .inr ⟨l,vs,by rw [hmo k a1]; exact e1,ho1 _ e2,e3,fun i hi=>⟨hcell _ _ _ e2 (e4 i hi).1,rd1 _ _ (e4 i hi).2⟩⟩
 ·exact (R.slot t).ext rd1 hlen3 hmo
 ·intro k kk d vv h
  rcases hmps k kk d vv h with ⟨j,a1,a3⟩ | ⟨a1,a2,a3⟩
  ·obtain ⟨l,ar,clk,vs,b1,b2,b3,b4,b5,b6,b7⟩:=R1.mp.1 j kk d vv (hHc _ _ a1)
   exact ⟨l,ar,clk,vs,by rw [(hσ _ _ a3).2]; exact b1,hB1 _ b2,b3,b4,b5,b6,fun z hz=>rd2 _ _ (b7 z hz)⟩
  ·obtain ⟨l,ar,clk,vs,b1,b2,b3,b4,b5,b6,b7⟩:=R.mp.1 k kk d vv a3
   exact ⟨l,ar,clk,vs,by rw [hmo k a1]; exact b1,b2,by rw [R1.below.block _ (hBx k _ l a2 a3 rfl b1)]; exact b3,b4,b5,b6,fun z hz=>rd1 _ _ (b7 z hz)⟩
 ·intro k k' kk d vv kk' d' v' l l' h1 h2 h3 h4 h5
  rcases hmps k kk d vv h1 with ⟨j,a1,a3⟩ | ⟨a1,a2,a3⟩<;>rcases hmps k' kk' d' v' h2 with ⟨j',b1,b3⟩ | ⟨b1,b2,b3⟩
  ·rw [(hσ _ _ a3).2] at h3; rw [(hσ _ _ b3).2] at h4
   have:=R1.mp.2.1 _ _ _ _ _ _ _ _ _ _ (hHc _ _ a1) (hHc _ _ b1) h3 h4 h5
   subst this
   rw [a3] at b3
   exact Option.some.inj b3
  ·rw [(hσ _ _ a3).2] at h3; rw [hmo _ b1] at h4
   exact absurd (by rw [← h5]; exact (R1.wrLt (hHc _ _ a1) rfl h3).1) (hBx k' _ l' b2 b3 rfl h4)
  ·rw [hmo _ a1] at h3; rw [(hσ _ _ b3).2] at h4
   exact absurd (by rw [h5]; exact (R1.wrLt (hHc _ _ b1) rfl h4).1) (hBx k _ l a2 a3 rfl h3)
  ·rw [hmo _ a1] at h3; rw [hmo _ b1] at h4
   exact R.mp.2.1 _ _ _ _ _ _ _ _ _ _ a3 b3 h3 h4 h5
 ·intro k i j h
  rcases hget k _ h with ⟨j',b',h1,h2,_⟩ | ⟨a1,a2,a3⟩ | h
  ·have:=sall j' b' h1
   cases b' with
   | anc _ _=>cases this
   | _=>cases h2
  ·obtain ⟨c1,c2⟩:=R.mp.2.2.1 k i j a3
   exact ⟨by simp only; omega,by rw [hmo j c1]; exact c2⟩
  ·cases h
 ·have hlps:∀ (k:Nat) (r:Loop),H2[k]? = some (.lp r)→(∃ j:Nat,H1[j]? = some (.lp r)∧σ[j]? = some k)∨(k < s.H.length∧k ∉ ks∧s.H[k]? = some (.lp r)):=by
   intro k r h
   rcases hget k _ h with ⟨j,b',h1,h2,h3⟩ | h | h
   ·cases b' with
    | lp r'=>simp only [Blk.ren,Blk.lp.injEq] at h2; obtain rfl:=h2; exact .inl ⟨j,h1,h3⟩
    | _=>cases h2
   ·exact .inr h
   ·cases h
  constructor
  ·intro k r h
   rcases hlps k r h with ⟨j,a1,a3⟩ | ⟨a1,a2,a3⟩
   ·obtain ⟨l,b1,b2,b3⟩:=R1.mp.2.2.2.1 j r (hHc _ _ a1)
    exact ⟨l,by rw [(hσ _ _ a3).2]; exact b1,hB1 _ b2,b3⟩
   ·obtain ⟨l,b1,b2,b3⟩:=R.mp.2.2.2.1 k r a3
    exact ⟨l,by rw [hmo k a1]; exact b1,b2,by rw [R1.below.block _ (hBx k _ l a2 a3 rfl b1)]; exact b3⟩
  ·intro k k' r r' l l' h1 h2 h3 h4 h5
   rcases hlps k r h1 with ⟨j,a1,a3⟩ | ⟨a1,a2,a3⟩<;>rcases hlps k' r' h2 with ⟨j',b1,b3⟩ | ⟨b1,b2,b3⟩
   ·rw [(hσ _ _ a3).2] at h3; rw [(hσ _ _ b3).2] at h4
    have:=R1.mp.2.2.2.2 _ _ _ _ _ _ (hHc _ _ a1) (hHc _ _ b1) h3 h4 h5
    subst this
    rw [a3] at b3
    exact Option.some.inj b3
   ·rw [(hσ _ _ a3).2] at h3; rw [hmo _ b1] at h4
    exact absurd (by rw [← h5]; exact (R1.wrLt (hHc _ _ a1) rfl h3).1) (hBx k' _ l' b2 b3 rfl h4)
   ·rw [hmo _ a1] at h3; rw [(hσ _ _ b3).2] at h4
    exact absurd (by rw [h5]; exact (R1.wrLt (hHc _ _ b1) rfl h4).1) (hBx k _ l a2 a3 rfl h3)
   ·rw [hmo _ a1] at h3; rw [hmo _ b1] at h4
    exact R.mp.2.2.2.2 _ _ _ _ _ _ a3 b3 h3 h4 h5
 ·have:=R1.slot 0
  exact AVal.sig rd2 hσ2 this (by rw [hσlen]; exact s1)

theorem kills_nil (H:Heap):kills H []=H:=rfl
theorem Rel.joinM (R:Rel C m s tmps w) {ks:List Nat} {H0 H1:Heap} {r:AV} {w' : World} {v:Value} {m' : Map} (hle:LeH ks s.H ks H0) (hks:∀ k∈ks,k < s.H.length) (R1:Rel (subC C m s.H ks H0 w) m' ⟨1,[(0,r)],H1++ancs 0 H0.length⟩ #[v] w') (hsc:scM r H0 H1=true) :
  ∃ m2,Rel C m2 { s with H:=putM s.H ks (H1.map (Blk.ren (ks++List.range' s.H.length (H1.length - ks.length)))) } tmps w' ∧
   AVal (Reads (OK C m2 (putM s.H ks (H1.map (Blk.ren (ks++List.range' s.H.length (H1.length - ks.length))))) w') w') m2 (putM s.H ks (H1.map (Blk.ren (ks++List.range' s.H.length (H1.length - ks.length))))) (Go.Pv.ren (ks++List.range' s.H.length (H1.length - ks.length)) r) v:=by
 have g1:=(hle.get).1
 have h:=R.joinQ (q:=H0.length) hle hks R1 (by
  unfold scM at hsc
  unfold scQ
  rw [Bool.and_eq_true,Bool.and_eq_true,Bool.and_eq_true,Bool.and_eq_true] at hsc
  obtain ⟨⟨⟨⟨s1,s2⟩,s3⟩,s4⟩,s5⟩:=hsc
  rw [s1,s2,s3,s5,List.take_length,s4,List.drop_length]; simp)
 rw [← g1,List.take_length,List.drop_length,kills_nil] at h
 obtain ⟨m2,h1,h2,_⟩:=h
 exact ⟨m2,h1,h2⟩

/-! ### The call -/

def argM1 (H:Heap) (ks:List Nat) (x a:AV):Prop:=
 match a with
 | .p pv=>(match peekG H x with | some (p,pv',true)=>p∧pv' = pv | _=>False)
 | a=>x=Go.Pv.ren ks a∧scA ks.length a=true

def argsM (H:Heap) (ks:List Nat):List AV→List AV→Prop
 | x :: xs,a :: avs=>argM1 H ks x a∧argsM H ks xs avs
 | [],[]=>True
 | _,_=>False

theorem argsM_val (R:Rel C m s tmps w) {rd' : PV→Value→Prop} {ks:List Nat} {H0:Heap} (h1:∀ p v,Reads (OK C m s.H w) w p v→rd' p v) (hl:H0.length=ks.length):∀ (X avs:List AV) (f:Nat→Value),argsM s.H ks X avs→(∀ i (h:i < X.length),AVal (Reads (OK C m s.H w) w) m s.H X[i] (f i)) →
  avs.length=X.length∧∀ i (h:i < avs.length),AVal rd' (mren m ks) H0 avs[i] (f i)
 | [],[],f,_,_=>⟨rfl,fun i h=>by simp at h⟩
 | x :: xs,a :: avs,f,h,hv=>by
  obtain ⟨k1,k2⟩:=argsM_val R h1 hl xs avs (fun i=>f (i + 1)) h.2 fun i hi=>by have:=hv (i + 1) (by simp; omega); rwa [List.getElem_cons_succ] at this
  refine ⟨by simp [k1],fun i hi=>?_⟩
  cases i with
  | succ i=>simpa using k2 i (by simpa using hi)
  | zero =>
   have hx:=hv 0 (by simp)
   simp only [List.getElem_cons_zero] at hx ⊢
   have h0:=h.1
   unfold argM1 at h0
   split at h0
   ·rename_i pv
    split at h0
    ·rename_i p pv' hp
     obtain ⟨g1,rfl⟩:=h0
     exact .p _ _ (h1 _ _ ((peekG_val R hx hp g1).2 rfl))
    ·exact h0.elim
   ·obtain ⟨rfl,hsc⟩:=h0
    exact hx.unren h1 hl hsc
 | [],_ :: _,_,h,_=>h.elim
 | _ :: _,[],_,h,_=>h.elim

theorem call_doesM {o:Oper} {fo:Operand} {args:Array Operand} {ts:Array TypeId} (ho:o.op = .call { callee:=.value fo,args:=args,argTypes:=ts }) {g:FuncId} {cap:List PV} (hfo:s.ev fo = .p (.fn g cap)) {ks:List Nat} {avs:List AV} {H0 H1:Heap} {r:AV}
  (hc:FnM P g avs H0 r H1) (hargs:argsM s.H ks (args.toList.map s.ev++cap.map .p) avs) (hle:LeH ks s.H ks H0) (hnd:ks.Nodup) (hks:ks.all (fun k=>decide (k < s.H.length))=true) (hsc:scM r H0 H1=true) :
  DoesW P o s (Go.Pv.ren (ks++List.range' s.H.length (H1.length - ks.length)) r) (putM s.H ks (H1.map (Blk.ren (ks++List.range' s.H.length (H1.length - ks.length))))):=by
 intro C m a w K Q R hK
 have hks' : ∀ k∈ks,k < s.H.length:=fun k hk=>by simpa using (List.all_eq_true.1 hks) k hk
 have hfv:=R.ev fo
 rw [hfo] at hfv
 generalize hfe:a.eval fo=fv at hfv
 have hfv:=hfv.p_inv
 cases hfv with
 | fn _ _ vs hcl hcr =>
  obtain ⟨⟨fn,hfn,hnm,hbd⟩,hcalls⟩:=hc
  have hrun:(execOp a.eval o).run P w = .ok (.enter g (args.map a.eval++vs)) w:=by
   have hnm' : ¬ fn.name = "runtime.NumGoroutine":=by simpa using hnm
   have hbd' : ¬ fn.body=none:=by intro e; rw [e] at hbd; simp at hbd
   simp [execOp,ho,resolve,hfe,Deferred.ofValue,invoke,callFunc,hfn,hnm',hbd']
  refine opR_of_wp (by first|rfl|(rw [ho]; rfl)) ?_
  unfold Oper.wp
  rw [hrun]
  simp only [Oper.upon]
  obtain ⟨g1,g2⟩:=hle.get
  have ho1:∀ b,OK C m s.H w b→OK (subC C m s.H ks H0 w) (mren m ks) H0 w b:=by
   refine fun b h=>⟨.inl h,h.2.1,fun k c l hk hl=>?_⟩
   obtain ⟨k',d,a1,a2,_⟩:=LeH.own g2 k c hk
   simp only [mren,a1,Option.bind_some] at hl
   exact h.2.2 k' _ l a2 hl
  obtain ⟨e1,e2⟩:=argsM_val R (rd':=Reads (OK (subC C m s.H ks H0 w) (mren m ks) H0 w) w) (H0:=H0) (fun p v h=>h.mono ho1) g1.symm _ avs (fun i=>(args.map a.eval++vs).getD i undef) hargs fun i hi=>by
   simp only [List.length_append,List.length_map,Array.length_toList] at hi
   by_cases hip:i < args.size
   ·rw [List.getElem_append_left (by simpa using hip)]
    simp only [Array.getD_eq_getD_getElem?]
    rw [Array.getElem?_append_left (by simpa using hip)]
    have:=R.ev args[i]
    simpa [Array.getElem?_eq_getElem hip] using this
   ·rw [List.getElem_append_right (by simp; omega)]
    simp only [Array.getD_eq_getD_getElem?]
    rw [Array.getElem?_append_right (by simp; omega)]
    simp only [List.getElem_map,List.length_map,Array.length_toList,Array.size_map]
    have:=hcr (i - args.size) (by omega)
    rw [Array.getD_eq_getD_getElem?] at this
    exact .p _ _ this
  have hsz:(args.map a.eval++vs).size=avs.length:=by
   rw [e1]; simp; omega
  have s5:H0.all notAnc=true:=by
   unfold scM at hsc
   rw [Bool.and_eq_true] at hsc
   exact hsc.2
  have R0:Rel (subC C m s.H ks H0 w) (mren m ks) ⟨avs.length,entA 0 avs,H0⟩ (args.map a.eval++vs) w:=by
   refine R.weakenC (s1:=⟨avs.length,entA 0 avs,H0⟩) hsz hnd hle ho1 (BelowP.refl _ _) (fun b h=>.inl h) (fun k b l h hw hl _=>.inr ⟨k,b,l,h,hw,hl,rfl⟩) (fun k i j h=>?_) fun t=>?_
   ·exact absurd rfl (notAnc_spec ((List.all_eq_true.1 s5) _ (List.mem_of_getElem? h)) i j)
   ·unfold St.get
    simp only
    rw [entA_lk,if_pos (Nat.zero_le _),Nat.sub_zero]
    by_cases ht:t < avs.length
    ·have:=e2 t ht
     simpa [List.getD,List.getElem?_eq_getElem ht] using this
    ·rw [List.getD_eq_getElem?_getD,List.getElem?_eq_none (by omega)]
     exact .dead _
  have R0':=R0.addAnc (n:=H0.length) (Nat.le_refl _) fun i _=>rfl
  refine (hcalls _ _ w _ R0').mono fun e w' ⟨v,m',he,R1⟩=>?_
  subst he
  obtain ⟨m2,R2,hv⟩:=R.joinM hle hks' R1 hsc
  exact hK v m2 w' R2 hv

/-- THE WORD OF THE WALK: a call that is lent blocks. -/
theorem runs_callM {all:Array Oper} {rest:List Oper} {K:St→Prop} {dst:Option Tmp} {ty:TypeId} {pos:String} {aft:Array Edge} {gd:Option (Nat × Bool)} {fo:Operand} {args:Array Operand} {ts:Array TypeId} {g:FuncId} {avs:List AV} {H0 H1:Heap} {r:AV} (ks:List Nat)
  (hc:FnM P g avs H0 r H1) {cap:List PV} (hfo:s.ev fo = .p (.fn g cap)) (hg:guardA all s { dst:=dst,op:=.call { callee:=.value fo,args:=args,argTypes:=ts },type:=ty,pos:=pos,after:=aft,guard:=gd } = some true)
  (hargs:argsM s.H ks (args.toList.map s.ev++cap.map .p) avs) (hle:LeH ks s.H ks H0) (hnd:ks.Nodup) (hks:ks.all (fun k=>decide (k < s.H.length))=true) (hsc:scM r H0 H1=true) (hd:dstOk s dst)
  (h:Runs P false all rest K (({ s with H:=putM s.H ks (H1.map (Blk.ren (ks++List.range' s.H.length (H1.length - ks.length)))) } : St).put dst (Go.Pv.ren (ks++List.range' s.H.length (H1.length - ks.length)) r))) :
  Runs P false all ({ dst:=dst,op:=.call { callee:=.value fo,args:=args,argTypes:=ts },type:=ty,pos:=pos,after:=aft,guard:=gd } :: rest) K s:=by
 obtain ⟨s',hr,hK⟩:=h
 exact ⟨s',.cons (.op s _ _ hg (dstOk_spec hd) (call_doesM rfl hfo hc hargs hle hnd hks hsc) fun h=>by cases h) hr,hK⟩

/-! ### How much stands in a map -/

end

end Go.Pv

/-
  Steps of a region beside those that are evaluated: literal rows as one's own, entries of literal maps. Conditions: none; a library text.
-/
set_option linter.all false

namespace Go.Pv
open Go.RowKit
section
variable {P:Program} {T:TypeId→Option TI} {s:St}
theorem runs_at {draw:Bool} {all:Array Oper} {K:St→Prop} (n:Nat) {l:List Oper} (h:Runs P draw all (l.take n) (fun s'=>Runs P draw all (l.drop n) K s') s):Runs P draw all l K s:=by
 have gen:∀ (l1 l2:List Oper) (s s1 s2:St),Run1 P draw all l1 s s1→Run1 P draw all l2 s1 s2→Run1 P draw all (l1++l2) s s2:=by
  intro l1
  induction l1 with
  | nil=>intro l2 s s1 s2 h1 h2; cases h1; exact h2
  | cons o r ih=>intro l2 s s1 s2 h1 h2; cases h1 with | cons a b=>exact .cons a (ih l2 _ _ _ b h2)
 obtain ⟨s1,h1,s2,h2,hK⟩:=h
 exact ⟨s2,by have:=gen _ _ _ _ _ h1 h2; rwa [List.take_append_drop] at this,hK⟩

/-- A literal row, as a block of the call's own. -/
theorem buildOwn_does (hT:∀ t ti,T t=some ti→tiOf P t=some ti) {o:Oper} {t:TypeId} {n:Nat} {parts:Array (Nat × Operand)} (ho:o.op = .buildSlice t n parts) {ti te:TI} (ht:T t=some ti) {e:TypeId} (hk:ti.kind = .slice e) (hte:T e=some te) (hsz:te.size=1) (hzl:te.zero.length=1)
  {p:Prop} {l:List PV} (hp:partsA 1 0 (parts.toList.map fun q=>(q.1,s.ev q.2))=some (p,l)) (hvc:p) (hl:l.length=n) (hn:n≤16777216) (hone:l.all PV.one=true):DoesW P o s (.sl s.H.length 0 n) (s.H++[.own (opl l)]):=by
 intro C m a w K Q R hK
 have hu:=ti_slice (hT _ _ ht) hk
 obtain ⟨i,d,z,h1,h2,h3,h4,h5,h6,h7,h8⟩:=tiOf_parts (hT _ _ hte)
 have key:∀ z0:Array Value,∃ cs',(∀ x∈l,x.cells.length=1)∧Instr.fill (fun i=>some (i * 1,1)) ((Array.range (n * 1)).map (z0[· % z0.size]!)) (parts.toList.map fun q=>(q.1,a.eval q.2))=some cs'∧cs'.size=n * 1 ∧
   ∀ c (h:c < (flat l).length),Reads (OK C m s.H w) w (flat l)[c] (cs'.getD c undef):=by
  intro z0
  obtain ⟨k1,cs',k2,k3,_,k5⟩:=partsA_run R 1 parts.toList 0 (cs:=(Array.range (n * 1)).map (z0[· % z0.size]!)) hp hvc (by simp [hl])
  exact ⟨cs',k1,k2,by rw [k3]; simp,fun c hc=>by have:=k5 c hc; rwa [Nat.zero_mul,Nat.zero_add] at this⟩
 obtain ⟨cs',k1,k2,k3,k5⟩:=key (if n * 1=0 then #[] else z.cells)
 have hss:=ti_size (hT _ _ hte) w
 rw [hsz] at hss
 have hfl0:=flat_length_eq 1 l k1
 have hfl:flat l=l:=flat_all_one hone
 have hrun:(execOp a.eval o).run P w = .ok (.value (.slice (some ⟨w.heap.size,0,none⟩) n n)) (w.alloc (.cells cs' e)):=by
  have hpt:(parts.map fun q=>(q.1,a.eval q.2)).toList=parts.toList.map fun q=>(q.1,a.eval q.2):=by simp
  have hne:¬ (n * 1 > 2 ^ 24):=by omega
  by_cases hz:n * 1=0
  ·rw [if_pos hz] at k2
   simp only [execOp,ho,Instr.buildSlice,Sem.run_bind,run_underlying hu,Result.andThen_ok,hss,Sem.run_ite,hz,if_true,Sem.run_pure,newRow] at k2 ⊢
   simp only [hpt,k2,Sem.run_bind,run_newObj,Result.andThen_ok,Sem.run_pure]
   rfl
  ·rw [if_neg hz] at k2
   simp only [execOp,ho,Instr.buildSlice,Sem.run_bind,run_underlying hu,Result.andThen_ok,hss,Sem.run_ite,hne,if_false,hz,zeroValue,typeInfo,run_program,h1,h3,Sem.run_pure,newRow] at k2 ⊢
   simp only [hpt,k2,Sem.run_bind,run_newObj,Result.andThen_ok,Sem.run_pure]
   rfl
 have hrel:=R.newBlk (below_alloc _) (cur:=cs') (e:=e) (heap_alloc_new w _) (by rw [k3]; unfold maxLen; omega) (c:=opl l) (by rw [opl_length,k3]; omega) (by
  intro j hj
  rw [opl_length] at hj
  have:=k5 j (by rw [hfl]; exact hj)
  simp only [hfl] at this
  simp only [opl,List.getElem_map]
  exact .p _ _ this)
 refine opR_of_wp (by first|rfl|(rw [ho]; rfl)) ?_
 unfold Oper.wp
 rw [hrun]
 exact hK _ _ _ hrel (.sl _ _ _ _ (by simp) <| .inr ⟨⟨w.heap.size,0,cs'.size⟩,n,by simp [mput],by simp,Nat.le_refl _,by simp only; omega⟩)

/-- An entry of a literal map. -/
theorem insert_does (hT:∀ t ti,T t=some ti→tiOf P t=some ti) {o:Oper} {t:TypeId} {x y z:Operand} (ho:o.op = .insert t x y z) {ti:TI} (ht:T t=some ti) {r:OV} (h:mapUpdateA T ti s.H (s.ev x) (s.ev y) (s.ev z)=some r) (hvc:r.vc):DoesW P o s r.av r.H:=by
 intro C m a w K Q R hK
 obtain ⟨v,w',m',hy,R',hv⟩:=mapUpdateA_does hT R (o:={ o with op:=.mapUpdate t x y z }) rfl ht h hvc
 have:=hK v m' w' R' hv
 have e:execOp a.eval o=execOp a.eval { o with op:=.mapUpdate t x y z }:=by
  simp only [execOp,ho]
 rcases hy with hr | ⟨hr,rfl⟩
 ·refine opR_of_wp (by first|rfl|(rw [ho]; rfl)) ?_; unfold Oper.wp; rw [e,hr]; exact this
 ·refine opR_of_wp (by first|rfl|(rw [ho]; rfl)) ?_; unfold Oper.wp; rw [e,hr]; exact this
section
variable {C:Ctx} {m:Map} {tmps:Array Value} {w:World}
end
end
end Go.Pv

/-
  A region that draws its order, whose last step stands behind all the others: the last step may write what it likes. Conditions: none; a library text.
-/
set_option linter.all false
namespace Go.Pv
open Go.RowKit

section
variable {P:Program}

end
end Go.Pv

/-
  A function that a variable holds, and that holds that variable: it is frozen, and read as deep as one likes. Conditions: none.
-/
set_option linter.all false
namespace Go.Pv
open Go.RowKit
section
variable {P:Program} {C:Ctx} {m:Map} {s:St} {tmps:Array Value} {w:World} {Q:Exit→St→Prop}
/-- The variable, read so many times. -/
def fxp (f:FuncId) (caps:List PV):Nat→PV
 | 0=>.ptr []
 | j + 1=>.ptr [.fn f (caps++[fxp f caps j])]
theorem Rel.freezeFix (R:Rel C m s tmps w) {k:Nat} {f:FuncId} {caps:List PV} (j:Nat) (hk:hget s.H k = .own [.cl f (caps.map .p++[.ptr k 0])]):Rel C m { s with H:=hset s.H k (.fro [.fn f (caps++[fxp f caps j])]) } tmps w:=by
 have hk:=hget_mut hk
 have hkl:k < s.H.length:=(List.getElem?_eq_some_iff.1 hk).1
 generalize hps:[PV.fn f (caps++[fxp f caps j])]=ps
 have hget:∀ (j:Nat) (b:Blk),(hset s.H k (.fro ps))[j]? = some b→(j=k∧b = .fro ps)∨(j ≠ k∧s.H[j]? = some b):=by
  intro j b h
  rw [hset_get] at h
  by_cases e:j=k
  ·rw [if_pos ⟨e,hkl⟩] at h; exact .inl ⟨e,(Option.some.inj h).symm⟩
  ·rw [if_neg (by simp [e])] at h; exact .inr ⟨e,h⟩
 have own:∀ (j:Nat) (d:List AV),(hset s.H k (.fro ps))[j]? = some (.own d)→j ≠ k∧s.H[j]? = some (.own d):=by
  intro j d h
  rcases hget j _ h with ⟨_,h⟩ | h
  ·cases h
  ·exact h
 have hok:∀ b,OK C m s.H w b→∀ j d l,(hset s.H k (.fro ps))[j]? = some (.own d)→m j=some l→l.g ≠ b:=fun b hb j d l h hl=>hb.2.2 j d l (own j d h).2 hl
 have ho:∀ b,OK C m s.H w b→OK C m (hset s.H k (.fro ps)) w b:=fun b h=>⟨h.1,h.2.1,hok b h⟩
 refine R.heap (BelowP.refl _ _) (by simp [hset_length]) (fun _ _=>rfl) hok (fun _ _=>rfl) ?_ ?_ ?_ (mp_hset rfl)
 ·exact fun j j' c1 c2 l1 l2 h1 h2 h3 h4 h5=>R.inj j j' c1 c2 l1 l2 (own j _ h1).2 (own j' _ h2).2 h3 h4 h5
 ·exact fun j d h=>(R.blk j d (own j d h).2).ext (fun p v h=>h.ext ho fun _ _=>rfl) (by simp [hset_length]) (fun _ _=>rfl) rfl fun _ _=>rfl
 ·intro j' d h
  rcases hget j' _ h with ⟨rfl,h'⟩ | ⟨hne,h⟩
  ·cases h'
   subst hps
   rcases R.blk j' _ hk with ⟨hc0,_⟩ | ⟨l,cur,e,hl,hB,hg,h1,h2,h3,hcells⟩
   ·cases hc0
   ·have hlg:OK C m (hset s.H j' (.fro [PV.fn f (caps++[fxp f caps j])])) w l.g:=⟨.inr hB,(Array.getElem?_eq_some_iff.1 hg).1,fun i d' l' h' hl' e'=>by
     obtain ⟨h1,h2⟩:=own i d' h'
     exact h1 (R.inj i j' d' _ l' l h2 hk hl' hl e')⟩
    simp only [List.length_cons,List.length_nil] at h3
    have hcell:w.cell? ⟨l.g,l.o + 0,none⟩=some (cur.getD (l.o + 0) undef):=cell_of hg (by omega)
    have h0:=hcells 0 (by simp)
    refine .inr ⟨l,fun i=>cur.getD (l.o + i) undef,hl,hlg,by simp only [List.length_cons,List.length_nil]; omega,fun i hi=>?_⟩
    simp only [List.length_cons,List.length_nil] at hi
    obtain rfl:i=0:=by omega
    refine ⟨hcell,?_⟩
    show Reads _ w (.fn f (caps++[fxp f caps j])) (cur.getD (l.o + 0) undef)
    generalize cur.getD (l.o + 0) undef=V at hcell h0 ⊢
    simp only [List.getElem_cons_zero] at h0
    cases h0 with
    | cl _ _ vs hsz hr =>
     have hlast:=hr caps.length (by simp)
     have hcap:∀ c (h:c < caps.length),Reads (OK C m (hset s.H j' (.fro [PV.fn f (caps++[fxp f caps j])])) w) w caps[c] (vs.getD c undef):=fun c h=>by
      have h5:=hr c (by simp; omega)
      rw [List.getElem_append_left (by simpa using h)] at h5
      simp only [List.getElem_map] at h5
      cases h5 with
      | p _ _ h6=>exact h6.ext ho fun _ _=>rfl
     have hp:vs.getD caps.length undef = .pointer (some ⟨l.g,l.o + 0,none⟩):=by
      rw [List.getElem_append_right (by simp)] at hlast
      simp only [List.length_map,Nat.sub_self,List.getElem_cons_zero] at hlast
      cases hlast with
      | ptr _ _ _ _ h6 =>
       obtain ⟨l2,e1,e2⟩:=h6
       rw [hl] at e1
       cases e1
       exact e2
     have key:∀ i,Reads (OK C m (hset s.H j' (.fro [PV.fn f (caps++[fxp f caps j])])) w) w (.fn f (caps++[fxp f caps i])) (.func (.func f) #[] vs):=by
      have step:∀ x,Reads (OK C m (hset s.H j' (.fro [PV.fn f (caps++[fxp f caps j])])) w) w x (.pointer (some ⟨l.g,l.o + 0,none⟩))→Reads (OK C m (hset s.H j' (.fro [PV.fn f (caps++[fxp f caps j])])) w) w (.fn f (caps++[x])) (.func (.func f) #[] vs):=fun x hx=>by
       refine .fn f _ vs (by rw [hsz]; simp) fun c hc=>?_
       by_cases hcc:c < caps.length
       ·rw [List.getElem_append_left hcc]; exact hcap c hcc
       ·have:c=caps.length:=by simp at hc; omega
        subst this
        rw [List.getElem_append_right (Nat.le_refl _),hp]
        simp only [Nat.sub_self,List.getElem_cons_zero]
        exact hx
      intro i
      induction i with
      | zero=>exact step _ (.ptr [] l.g (l.o + 0) (fun _=>undef) hlg (fun c hc=>absurd hc (Nat.not_lt_zero _)) fun c hc=>absurd hc (Nat.not_lt_zero _))
      | succ i ih =>
       refine step _ (.ptr [_] l.g (l.o + 0) (fun _=>.func (.func f) #[] vs) hlg (fun c hc=>?_) fun c hc=>?_)
       ·obtain rfl:c=0:=by simpa using hc
        exact hcell
       ·obtain rfl:c=0:=by simpa using hc
        exact ih
     exact key j
  ·exact (R.fro j' d h).ext ho (fun _ _=>rfl) rfl
theorem hk_fix {c:Code} (k j:Nat) {f:FuncId} {caps:List PV} (hk:hget s.H k = .own [.cl f (caps.map .p++[.ptr k 0])]) (h:Holds P c Q { s with H:=hset s.H k (.fro [.fn f (caps++[fxp f caps j])]) }):Holds P c Q s:=
 fun r ds C m a w R hd=>h r ds C m a w (R.freezeFix j hk) hd
/-- A row of the call's own, taken as it stands: its things are written no more. -/
theorem FnG_fnc {f:FuncId} {args l:List PV} (h:FnG P f args (.sl 0 0 l.length) [.own (opl l)]) (hone:l.all PV.one=true):FnC P f args (.list l):=by
 refine ⟨h.1,fun okA w vals h1 h2 h3=>(h.2 okA w vals h1 h2 h3).mono fun e w' ⟨v,m',he,hbl,ho⟩=>⟨v,he,hbl,?_⟩⟩
 cases ho.val with
 | sl _ _ _ _ hk hs =>
  rcases hs with ⟨h0,ad,rfl⟩ | ⟨lc,cap,hm,rfl,hc1,hc2⟩
  ·have:l=[]:=List.eq_nil_of_length_eq_zero h0
   subst this
   exact .list0 _ _ fun _=>rfl
  ·rcases ho.blk 0 (opl l) rfl with ⟨hn,_⟩ | ⟨l',cur,e',hm2,hB,hh,hs1,hs3,hs2,hcells⟩
   ·have:l=[]:=List.map_eq_nil_iff.1 hn
    subst this
    exact .list0 _ _ fun h=>by cases h
   ·rw [hm] at hm2; cases hm2
    rw [opl_length] at hs2
    refine row_reads rfl hone ⟨.inr hB,(Array.getElem?_eq_some_iff.1 hh).1⟩ hc1 (fun j=>cur.getD (lc.o + j) undef) (fun j hj=>?_) fun j hj=>?_
    ·have:lc.o + 0 + j=lc.o + j:=by omega
     rw [this]; exact cell_of hh (by omega)
    ·have:=hcells j (by rw [opl_length]; exact hj)
     have e2:(opl l)[j]'(by rw [opl_length]; exact hj) = .p l[j]:=by simp [opl]
     rw [e2] at this
     exact this.p_inv.mono fun b hb=>⟨hb.1,hb.2.1⟩
end
end Go.Pv

/-
  A region that draws its order, by footprints, whose last step stands behind all the others: the last step may write what it likes. Conditions: none; a library text.
-/
set_option linter.all false
namespace Go.Pv
open Go.RowKit

section
variable {P:Program}
end

end Go.Pv

/-
  Krull and Schmidt: parts of which none is a product are the same, one by one, whatever way a finite group is parted. Conditions: none.
-/
set_option linter.all false
namespace Go.Proofs.YtboadfahlflmhaaDoor

structure Gp (α:Type) [Mul α] [One α] [Inv α]:Prop where
 assoc:∀ a b c:α,a * b * c=a * (b * c)
 one_l:∀ a:α,1 * a=a
 one_r:∀ a:α,a * 1=a
 inv_l:∀ a:α,a⁻¹ * a=1
 inv_r:∀ a:α,a * a⁻¹=1

section
variable {α β:Type} [Mul α] [One α] [Inv α] [Mul β] [One β] [Inv β]
namespace Gp
theorem canc (G:Gp α) {a b c:α} (h:a * b=a * c):b=c:=by
 have:=congrArg (fun x=>a⁻¹ * x) h
 simp only [← G.assoc,G.inv_l,G.one_l] at this
 exact this
theorem canr (G:Gp α) {a b c:α} (h:b * a=c * a):b=c:=by
 have:=congrArg (fun x=>x * a⁻¹) h
 simp only [G.assoc,G.inv_r,G.one_r] at this
 exact this
theorem il (G:Gp α) (a b:α):a⁻¹ * (a * b)=b:=by rw [← G.assoc,G.inv_l,G.one_l]
theorem ir (G:Gp α) (a b:α):a * (a⁻¹ * b)=b:=by rw [← G.assoc,G.inv_r,G.one_l]
theorem inv_of (G:Gp α) {a b:α} (h:a * b=1):b=a⁻¹:=G.canc (a:=a) (by rw [h,G.inv_r])
theorem inv_mul (G:Gp α) (a b:α):(a * b)⁻¹=b⁻¹ * a⁻¹:=(G.inv_of (by rw [G.assoc,G.ir,G.inv_r])).symm
theorem inv_one (G:Gp α):(1:α)⁻¹=1:=(G.inv_of (G.one_l 1)).symm
end Gp

/-- A subgroup. -/
structure Sg (S:α→Prop):Prop where
 one:S 1
 mul:∀ a b,S a→S b→S (a * b)
 inv:∀ a,S a→S a⁻¹

theorem nml_comm (G:Gp α) {S T:α→Prop} (hS:Sg S) (hT:Sg T) (h1:∀ s t,S s→T t→S (t * s * t⁻¹)) (h2:∀ s t,S s→T t→T (s * t * s⁻¹)) (hm:∀ x,S x→T x→x=1) {s t:α} (hs:S s) (ht:T t):s * t=t * s:=by
 have k1:S (s * t * s⁻¹ * t⁻¹):=by
  have:=hS.mul _ _ hs (h1 _ _ (hS.inv _ hs) ht)
  simp only [G.assoc] at this ⊢
  exact this
 have k2:T (s * t * s⁻¹ * t⁻¹):=hT.mul _ _ (h2 _ _ hs ht) (hT.inv _ ht)
 have:=congrArg (fun x=>x * (t * s)) (hm _ k1 k2)
 simp only [G.assoc,G.il,G.ir,G.one_l,G.inv_l,G.one_r] at this
 exact this

/-- P is the direct product of A and B. -/
structure DP (P A B:α→Prop):Prop where
 sa:Sg A
 sb:Sg B
 comm:∀ a b,A a→B b→a * b=b * a
 meet:∀ x,A x→B x→x=1
 all:∀ x,P x↔∃ a b,A a∧B b∧x=a * b

open Classical in
noncomputable def pj1 (A B:α→Prop) (x:α):α:=if h:∃ a,A a∧∃ b,B b∧x=a * b then Classical.choose h else 1

variable {P A B R:α→Prop}
namespace DP
theorem symm (D:DP P A B):DP P B A:=
 ⟨D.sb,D.sa,fun a b ha hb=>(D.comm b a hb ha).symm,fun x h1 h2=>D.meet x h2 h1,fun x=>by
  rw [D.all]
  exact ⟨fun ⟨a,b,ha,hb,h⟩=>⟨b,a,hb,ha,by rw [h,D.comm a b ha hb]⟩,fun ⟨a,b,ha,hb,h⟩=>⟨b,a,hb,ha,by rw [h,D.comm b a hb ha]⟩⟩⟩
theorem inl (G:Gp α) (D:DP P A B) {x:α} (h:A x):P x:=(D.all x).2 ⟨x,1,h,D.sb.one,(G.one_r x).symm⟩
theorem inr (G:Gp α) (D:DP P A B) {x:α} (h:B x):P x:=(D.all x).2 ⟨1,x,D.sa.one,h,(G.one_l x).symm⟩
theorem prod (D:DP P A B) {x y:α} (h:A x) (h' : B y):P (x * y):=(D.all _).2 ⟨x,y,h,h',rfl⟩
theorem mul4 (G:Gp α) (D:DP P A B) {a b a' b' : α} (hb:B b) (ha' : A a'):(a * b) * (a' * b')=(a * a') * (b * b'):=by
 rw [G.assoc,← G.assoc b,← D.comm a' b ha' hb,G.assoc,G.assoc]
theorem sub (G:Gp α) (D:DP P A B):Sg P:=
 ⟨D.inl G D.sa.one,fun x y hx hy=>by
  obtain ⟨a,b,ha,hb,rfl⟩:=(D.all x).1 hx
  obtain ⟨a',b',ha',hb',rfl⟩:=(D.all y).1 hy
  rw [D.mul4 G hb ha']
  exact D.prod (D.sa.mul _ _ ha ha') (D.sb.mul _ _ hb hb'),fun x hx=>by
  obtain ⟨a,b,ha,hb,rfl⟩:=(D.all x).1 hx
  rw [G.inv_mul,← D.comm _ _ (D.sa.inv _ ha) (D.sb.inv _ hb)]
  exact D.prod (D.sa.inv _ ha) (D.sb.inv _ hb)⟩
theorem uniq (G:Gp α) (D:DP P A B) {a b a' b' : α} (ha:A a) (hb:B b) (ha' : A a') (hb' : B b') (h:a * b=a' * b'):a=a'∧b=b':=by
 have h1:a'⁻¹ * a=b' * b⁻¹:=by
  refine G.canc (a:=a') (G.canr (a:=b) ?_)
  simp only [G.assoc,G.il,G.ir,G.inv_l,G.one_r]
  exact h
 have h2:=D.meet _ (D.sa.mul _ _ (D.sa.inv _ ha') ha) (by rw [h1]; exact D.sb.mul _ _ hb' (D.sb.inv _ hb))
 have h3:a=a':=G.canc (a:=a'⁻¹) (by rw [h2,G.inv_l])
 subst h3
 exact ⟨rfl,G.canc h⟩
theorem p1_eq (G:Gp α) (D:DP P A B) {a b:α} (ha:A a) (hb:B b):pj1 A B (a * b)=a:=by
 have h:∃ a',A a'∧∃ b',B b'∧a * b=a' * b':=⟨a,ha,b,hb,rfl⟩
 unfold pj1
 rw [dif_pos h]
 obtain ⟨h1,b',h2,h3⟩:=Classical.choose_spec h
 exact (D.uniq G ha hb h1 h2 h3).1.symm
theorem p1_a (G:Gp α) (D:DP P A B) {a:α} (ha:A a):pj1 A B a=a:=by
 have:=D.p1_eq G ha D.sb.one
 rwa [G.one_r] at this
theorem p1_b (G:Gp α) (D:DP P A B) {b:α} (hb:B b):pj1 A B b=1:=by
 have:=D.p1_eq G D.sa.one hb
 rwa [G.one_l] at this
theorem p1_in (G:Gp α) (D:DP P A B) {x:α} (hx:P x):A (pj1 A B x):=by
 obtain ⟨a,b,ha,hb,rfl⟩:=(D.all x).1 hx
 rw [D.p1_eq G ha hb]; exact ha
theorem p1_mul (G:Gp α) (D:DP P A B) {x y:α} (hx:P x) (hy:P y):pj1 A B (x * y)=pj1 A B x * pj1 A B y:=by
 obtain ⟨a,b,ha,hb,rfl⟩:=(D.all x).1 hx
 obtain ⟨a',b',ha',hb',rfl⟩:=(D.all y).1 hy
 rw [D.mul4 G hb ha',D.p1_eq G ha hb,D.p1_eq G ha' hb',D.p1_eq G (D.sa.mul _ _ ha ha') (D.sb.mul _ _ hb hb')]
theorem p1_ker (G:Gp α) (D:DP P A B) {x:α} (hx:P x) (h:pj1 A B x=1):B x:=by
 obtain ⟨a,b,ha,hb,rfl⟩:=(D.all x).1 hx
 rw [D.p1_eq G ha hb] at h
 rw [h,G.one_l]; exact hb
theorem sum (G:Gp α) (D:DP P A B) {x:α} (hx:P x):x=pj1 A B x * pj1 B A x:=by
 obtain ⟨a,b,ha,hb,rfl⟩:=(D.all x).1 hx
 rw [D.p1_eq G ha hb,D.comm a b ha hb,D.symm.p1_eq G hb ha,D.comm a b ha hb]
theorem nml (G:Gp α) (D:DP P A B) {x z:α} (hx:A x) (hz:P z):A (z * x * z⁻¹):=by
 obtain ⟨a,b,ha,hb,rfl⟩:=(D.all z).1 hz
 have:a * b * x * (a * b)⁻¹=a * x * a⁻¹:=by
  have h1:=D.comm x b hx hb
  rw [G.inv_mul,G.assoc a b x,← h1]
  simp only [G.assoc,G.ir]
 rw [this]
 exact D.sa.mul _ _ (D.sa.mul _ _ ha hx) (D.sa.inv _ ha)
theorem p1_inv (G:Gp α) (D:DP P A B) {x:α} (hx:P x):pj1 A B x⁻¹=(pj1 A B x)⁻¹:=
 G.inv_of (by rw [← D.p1_mul G hx ((D.sub G).inv _ hx),G.inv_r,D.p1_a G D.sa.one])
end DP

/-- An isomorphism of subgroups. -/
structure Ism (A:α→Prop) (B:β→Prop) (φ:α→β):Prop where
 to:∀ x,A x→B (φ x)
 mul:∀ x y,A x→A y→φ (x * y)=φ x * φ y
 inj:∀ x y,A x→A y→φ x=φ y→x=y
 sur:∀ y,B y→∃ x,A x∧φ x=y
/-- None of two. -/
def Ind (A:α→Prop):Prop:=Sg A∧(∃ x,A x∧x ≠ 1)∧∀ S T,DP A S T→(∀ x,S x→x=1)∨(∀ x,T x→x=1)
def img (φ:α→β) (A:α→Prop) (y:β):Prop:=∃ x,A x∧φ x=y

theorem Ism.one (G:Gp α) (K:Gp β) {A:α→Prop} {B:β→Prop} {φ:α→β} (hA:Sg A) (h:Ism A B φ):φ 1=1:=by
 have:=h.mul 1 1 hA.one hA.one
 rw [G.one_l] at this
 refine (K.canc (a:=φ 1) ?_).symm
 rw [K.one_r]; exact this
theorem Ism.inv (G:Gp α) (K:Gp β) {A:α→Prop} {B:β→Prop} {φ:α→β} (hA:Sg A) (h:Ism A B φ) {x:α} (hx:A x):φ x⁻¹=(φ x)⁻¹:=
 K.inv_of (by rw [← h.mul _ _ hx (hA.inv _ hx),G.inv_r,h.one G K hA])
theorem Ism.sub (G:Gp α) (K:Gp β) {A:α→Prop} {B:β→Prop} {φ:α→β} (hA:Sg A) (h:Ism A B φ):Sg B:=
 ⟨by rw [← h.one G K hA]; exact h.to _ hA.one,fun x y hx hy=>by
  obtain ⟨a,ha,rfl⟩:=h.sur x hx
  obtain ⟨b,hb,rfl⟩:=h.sur y hy
  rw [← h.mul _ _ ha hb]; exact h.to _ (hA.mul _ _ ha hb),fun x hx=>by
  obtain ⟨a,ha,rfl⟩:=h.sur x hx
  rw [← h.inv G K hA ha]; exact h.to _ (hA.inv _ ha)⟩
theorem Ism.refl (A:α→Prop):Ism A A fun x=>x:=⟨fun _ h=>h,fun _ _ _ _=>rfl,fun _ _ _ _ h=>h,fun y h=>⟨y,h,rfl⟩⟩
theorem Ism.trans {γ:Type} [Mul γ] [One γ] [Inv γ] {A:α→Prop} {B:β→Prop} {C:γ→Prop} {φ:α→β} {ψ:β→γ} (h:Ism A B φ) (h' : Ism B C ψ):Ism A C fun x=>ψ (φ x):=
 ⟨fun x hx=>h'.to _ (h.to x hx),fun x y hx hy=>by rw [h.mul x y hx hy,h'.mul _ _ (h.to x hx) (h.to y hy)],fun x y hx hy e=>h.inj x y hx hy (h'.inj _ _ (h.to x hx) (h.to y hy) e),fun z hz=>by
  obtain ⟨y,hy,rfl⟩:=h'.sur z hz
  obtain ⟨x,hx,rfl⟩:=h.sur y hy
  exact ⟨x,hx,rfl⟩⟩
open Classical in
theorem Ism.symm {A:α→Prop} {B:β→Prop} {φ:α→β} (hA:Sg A) (h:Ism A B φ):∃ ψ,Ism B A ψ:=by
 refine ⟨fun y=>if h:∃ x,A x∧φ x=y then Classical.choose h else 1,?_⟩
 have key:∀ y,B y→A ((fun y=>if h:∃ x,A x∧φ x=y then Classical.choose h else 1) y)∧φ ((fun y=>if h:∃ x,A x∧φ x=y then Classical.choose h else 1) y)=y:=fun y hy=>by
  have h1:=h.sur y hy
  simp only [dif_pos h1]
  exact Classical.choose_spec h1
 generalize (fun y=>if h:∃ x,A x∧φ x=y then Classical.choose h else 1)=ψ at key
 have hl:∀ x,A x→ψ (φ x)=x:=fun x hx=>h.inj _ _ (key _ (h.to x hx)).1 hx (key _ (h.to x hx)).2
 refine ⟨fun y hy=>(key y hy).1,fun x y hx hy=>?_,fun x y hx hy e=>by rw [← (key x hx).2,e,(key y hy).2],fun x hx=>⟨φ x,h.to x hx,hl x hx⟩⟩
 have h3:x * y=φ (ψ x * ψ y):=by rw [h.mul _ _ (key x hx).1 (key y hy).1,(key x hx).2,(key y hy).2]
 rw [h3,hl _ (hA.mul _ _ (key x hx).1 (key y hy).1)]
theorem Ism.of {A:α→Prop} {B:β→Prop} {φ:α→β} (h:Ism A B φ) {S:α→Prop} (hS:∀ x,S x→A x):Ism S (img φ S) φ:=
 ⟨fun x hx=>⟨x,hx,rfl⟩,fun x y hx hy=>h.mul x y (hS x hx) (hS y hy),fun x y hx hy=>h.inj x y (hS x hx) (hS y hy),fun _ hy=>hy⟩
theorem Ism.dp (G:Gp α) (K:Gp β) {φ:α→β} {Q:β→Prop} (h:Ism P Q φ) (D:DP P A B):DP Q (img φ A) (img φ B):=by
 have hP:=D.sub G
 have hA:=h.of fun x hx=>D.inl G hx
 have hB:=h.of fun x hx=>D.inr G hx
 refine ⟨hA.sub G K D.sa,hB.sub G K D.sb,?_,?_,fun y=>?_⟩
 ·rintro _ _ ⟨a,ha,rfl⟩ ⟨b,hb,rfl⟩
  rw [← h.mul _ _ (D.inl G ha) (D.inr G hb),← h.mul _ _ (D.inr G hb) (D.inl G ha),D.comm a b ha hb]
 ·rintro _ ⟨a,ha,rfl⟩ ⟨b,hb,e⟩
  have:=h.inj _ _ (D.inr G hb) (D.inl G ha) e
  subst this
  rw [D.meet _ ha hb,h.one G K hP]
 ·constructor
  ·intro hy
   obtain ⟨x,hx,rfl⟩:=h.sur y hy
   obtain ⟨a,b,ha,hb,rfl⟩:=(D.all x).1 hx
   exact ⟨φ a,φ b,⟨a,ha,rfl⟩,⟨b,hb,rfl⟩,h.mul _ _ (D.inl G ha) (D.inr G hb)⟩
  ·rintro ⟨_,_,⟨a,ha,rfl⟩,⟨b,hb,rfl⟩,rfl⟩
   rw [← h.mul _ _ (D.inl G ha) (D.inr G hb)]
   exact h.to _ (D.prod ha hb)
theorem DP.congr {P' : α→Prop} (D:DP P A B) (h:∀ x,P x↔P' x):DP P' A B:=⟨D.sa,D.sb,D.comm,D.meet,fun x=>by rw [← h,D.all]⟩
theorem Ind.ism (G:Gp α) (K:Gp β) {A:α→Prop} {B:β→Prop} {φ:α→β} (h:Ism A B φ) (hi:Ind A):Ind B:=by
 obtain ⟨sA,⟨x,hx,hx1⟩,hd⟩:=hi
 have h1:=h.one G K sA
 refine ⟨h.sub G K sA,⟨φ x,h.to x hx,fun e=>hx1 (h.inj _ _ hx sA.one (by rw [e,h1]))⟩,fun S T D=>?_⟩
 obtain ⟨ψ,hψ⟩:=h.symm sA
 have hB:=h.sub G K sA
 have hp1:=hψ.one K G hB
 rcases hd _ _ (hψ.dp K G D) with h2 | h2
 ·exact .inl fun y hy=>hψ.inj _ _ (D.inl K hy) hB.one (by rw [h2 _ ⟨y,hy,rfl⟩,hp1])
 ·exact .inr fun y hy=>hψ.inj _ _ (D.inr K hy) hB.one (by rw [h2 _ ⟨y,hy,rfl⟩,hp1])

/-! ### Fitting -/
def iter (φ:α→α):Nat→α→α
 | 0,x=>x
 | k + 1,x=>φ (iter φ k x)
theorem iter_add (φ:α→α) (j:Nat):∀ k x,iter φ (k + j) x=iter φ k (iter φ j x)
 | 0,x=>by rw [Nat.zero_add]; rfl
 | k + 1,x=>by
  rw [show k + 1 + j=(k + j) + 1 by omega]
  show φ _=φ _
  rw [iter_add φ j k x]
theorem iter_swap (φ:α→α) (k:Nat) (x:α):iter φ k (φ x)=φ (iter φ k x):=(iter_add φ 1 k x).symm
def fct:Nat→Nat
 | 0=>1
 | n + 1=>(n + 1) * fct n
theorem fct_pos:∀ n,0 < fct n
 | 0=>Nat.one_pos
 | n + 1=>Nat.mul_pos (Nat.succ_pos _) (fct_pos n)
theorem fct_ge:∀ n,n≤fct n
 | 0=>Nat.zero_le _
 | n + 1=>Nat.le_mul_of_pos_right _ (fct_pos n)
theorem fct_dvd:∀ n c,0 < c→c≤n→c ∣ fct n
 | 0,c,h,h'=>by omega
 | n + 1,c,h,h'=>by
  by_cases hc:c=n + 1
  ·subst hc; exact Nat.dvd_mul_right _ _
  ·exact Nat.dvd_mul_left_of_dvd (fct_dvd n c h (by omega)) _
/-- A power that does no more, done again. -/
theorem iter_idem (φ:α→α) {N:Nat} (hN:∀ l:List α,l.Nodup→l.length≤N) (x:α):iter φ (fct (N + 1)) (iter φ (fct (N + 1)) x)=iter φ (fct (N + 1)) x:=by
 obtain ⟨i,c,hc,hi,he⟩:∃ i c,0 < c∧i + c≤N + 1∧iter φ (i + c) x=iter φ i x:=Classical.byContradiction fun hne=>by
  have hnd:((List.range (N + 1)).map fun k=>iter φ k x).Nodup:=by
   refine List.pairwise_map.2 ?_
   refine List.Pairwise.imp_of_mem (R:=fun a b=>a < b) (fun {a b} ha hb hab e=>?_) List.pairwise_lt_range
   exact hne ⟨a,b - a,by omega,by have:=List.mem_range.1 hb; omega,by rw [show a + (b - a)=b by omega]; exact e.symm⟩
  have:=hN _ hnd
  simp at this
  omega
 have h1:∀ k,i≤k→iter φ (k + c) x=iter φ k x:=fun k hk=>by
  have e1:k=(k - i) + i:=by omega
  rw [show k + c=(k - i) + (i + c) by omega,iter_add,he,← iter_add,← e1]
 have h2:∀ t k,i≤k→iter φ (k + c * t) x=iter φ k x:=fun t=>by
  induction t with
  | zero=>intro k _; rfl
  | succ t ih =>
   intro k hk
   rw [show k + c * (t + 1)=(k + c * t) + c by rw [Nat.mul_succ]; omega,h1 _ (by omega),ih k hk]
 obtain ⟨t,ht⟩:=fct_dvd (N + 1) c hc (by omega)
 rw [← iter_add]
 have:=h2 t (fct (N + 1)) (by have:=fct_ge (N + 1); omega)
 rw [← ht] at this
 exact this

structure NEnd (H:α→Prop) (φ:α→α):Prop where
 to:∀ x,H x→H (φ x)
 mul:∀ x y,H x→H y→φ (x * y)=φ x * φ y
 nml:∀ h x,H h→H x→φ (h * x * h⁻¹)=h * φ x * h⁻¹
theorem NEnd.iter {H:α→Prop} {φ:α→α} (h:NEnd H φ) (hH:Sg H):∀ k,NEnd H (iter φ k)
 | 0=>⟨fun _ h=>h,fun _ _ _ _=>rfl,fun _ _ _ _=>rfl⟩
 | k + 1=>by
  have ih:=NEnd.iter h hH k
  refine ⟨fun x hx=>h.to _ (ih.to x hx),fun x y hx hy=>?_,fun g x hg hx=>?_⟩
  ·show φ _=φ _ * φ _
   rw [ih.mul x y hx hy,h.mul _ _ (ih.to x hx) (ih.to y hy)]
  ·show φ _=g * φ _ * _
   rw [ih.nml g x hg hx,h.nml g _ hg (ih.to x hx)]
theorem NEnd.one (G:Gp α) {H:α→Prop} {φ:α→α} (h:NEnd H φ) (hH:Sg H):φ 1=1:=by
 have:=h.mul 1 1 hH.one hH.one
 rw [G.one_l] at this
 refine (G.canc (a:=φ 1) ?_).symm
 rw [G.one_r]; exact this
theorem NEnd.inv (G:Gp α) {H:α→Prop} {φ:α→α} (h:NEnd H φ) (hH:Sg H) {x:α} (hx:H x):φ x⁻¹=(φ x)⁻¹:=
 G.inv_of (by rw [← h.mul _ _ hx (hH.inv _ hx),G.inv_r,h.one G hH])

/-- FITTING'S LEMMA. -/
theorem fitting (G:Gp α) {N:Nat} (hN:∀ l:List α,l.Nodup→l.length≤N) {H:α→Prop} (hI:Ind H) {φ:α→α} (h:NEnd H φ):(∃ k,∀ x,H x→iter φ k x=1)∨((∀ x,H x→φ x=1→x=1)∧∀ y,H y→∃ x,H x∧φ x=y):=by
 obtain ⟨hH,_,hd⟩:=hI
 have hid:=iter_idem φ hN
 have hpos:=fct_pos (N + 1)
 generalize hkk:fct (N + 1)=k at hid hpos
 obtain ⟨j,rfl⟩:∃ j,k=j + 1:=⟨k - 1,by omega⟩
 have hε:=h.iter hH (j + 1)
 have hj:=h.iter hH j
 have D:DP H (fun x=>H x∧iter φ (j + 1) x=1) (img (iter φ (j + 1)) H):=by
  have s1:Sg fun x=>H x∧iter φ (j + 1) x=1:=⟨⟨hH.one,hε.one G hH⟩,fun a b ha hb=>⟨hH.mul _ _ ha.1 hb.1,by rw [hε.mul _ _ ha.1 hb.1,ha.2,hb.2,G.one_l]⟩,fun a ha=>⟨hH.inv _ ha.1,by rw [hε.inv G hH ha.1,ha.2,G.inv_one]⟩⟩
  have s2:Sg (img (iter φ (j + 1)) H):=⟨⟨1,hH.one,hε.one G hH⟩,by
   rintro _ _ ⟨a,ha,rfl⟩ ⟨b,hb,rfl⟩
   exact ⟨a * b,hH.mul _ _ ha hb,hε.mul _ _ ha hb⟩,by
   rintro _ ⟨a,ha,rfl⟩
   exact ⟨a⁻¹,hH.inv _ ha,hε.inv G hH ha⟩⟩
  have hm:∀ x,(H x∧iter φ (j + 1) x=1)→img (iter φ (j + 1)) H x→x=1:=by
   rintro _ ⟨_,h1⟩ ⟨a,ha,rfl⟩
   rw [hid] at h1
   exact h1
  refine ⟨s1,s2,fun a b ha hb=>nml_comm G s1 s2 ?_ ?_ hm ha hb,hm,fun x=>⟨fun hx=>?_,?_⟩⟩
  ·rintro s _ ⟨hs,hs1⟩ ⟨a,ha,rfl⟩
   have ht:=hε.to a ha
   exact ⟨hH.mul _ _ (hH.mul _ _ ht hs) (hH.inv _ ht),by rw [hε.nml _ _ ht hs,hs1,G.one_r,G.inv_r]⟩
  ·rintro s _ ⟨hs,hs1⟩ ⟨a,ha,rfl⟩
   exact ⟨s * a * s⁻¹,hH.mul _ _ (hH.mul _ _ hs ha) (hH.inv _ hs),hε.nml _ _ hs ha⟩
  ·have hi:=hε.to x hx
   refine ⟨x * (iter φ (j + 1) x)⁻¹,iter φ (j + 1) x,⟨hH.mul _ _ hx (hH.inv _ hi),?_⟩,⟨x,hx,rfl⟩,by rw [G.assoc,G.inv_l,G.one_r]⟩
   rw [hε.mul _ _ hx (hH.inv _ hi),hε.inv G hH hi,hid,G.inv_r]
  ·rintro ⟨a,_,⟨ha,_⟩,⟨b,hb,rfl⟩,rfl⟩
   exact hH.mul _ _ ha (hε.to b hb)
 rcases hd _ _ D with h1 | h1
 ·right
  refine ⟨fun x hx e=>h1 x ⟨hx,?_⟩,fun y hy=>?_⟩
  ·have:iter φ (j + 1) x=iter φ j (φ x):=(iter_swap φ j x).symm
   rw [this,e,hj.one G hH]
  ·have hi:=hε.to y hy
   have h2:=h1 (y * (iter φ (j + 1) y)⁻¹) ⟨hH.mul _ _ hy (hH.inv _ hi),by rw [hε.mul _ _ hy (hH.inv _ hi),hε.inv G hH hi,hid,G.inv_r]⟩
   refine ⟨iter φ j y,hj.to y hy,?_⟩
   show iter φ (j + 1) y=y
   refine (G.canr (a:=(iter φ (j + 1) y)⁻¹) ?_).symm
   rw [h2,G.inv_r]
 ·exact .inl ⟨j + 1,fun x hx=>h1 _ ⟨x,hx,rfl⟩⟩

/-! ### The exchange -/
theorem pj_nend (G:Gp α) {H X K:α→Prop} (D:DP P H X) (E:DP P K R):NEnd H fun x=>pj1 H X (pj1 K R x):=by
 refine ⟨fun x hx=>D.p1_in G (E.inl G (E.p1_in G (D.inl G hx))),fun x y hx hy=>?_,fun g x hg hx=>?_⟩
 ·rw [E.p1_mul G (D.inl G hx) (D.inl G hy),D.p1_mul G (E.inl G (E.p1_in G (D.inl G hx))) (E.inl G (E.p1_in G (D.inl G hy)))]
 ·
  have gP:=D.inl G hg
  have xP:=D.inl G hx
  have sP:=D.sub G
  have gi:=sP.inv _ gP
  have kx:=E.p1_in G xP
  have kP:=E.inl G kx
  have e1:pj1 K R (g * x * g⁻¹)=g * pj1 K R x * g⁻¹:=by
   rw [E.p1_mul G (sP.mul _ _ gP xP) gi,E.p1_mul G gP xP]
   have hn:=E.nml G kx gP
   have:=E.p1_a G hn
   rw [E.p1_mul G (sP.mul _ _ gP kP) gi,E.p1_mul G gP kP,E.p1_a G kx] at this
   exact this
  show pj1 H X (pj1 K R (g * x * g⁻¹))=g * pj1 H X (pj1 K R x) * g⁻¹
  rw [e1,D.p1_mul G (sP.mul _ _ gP kP) gi,D.p1_mul G gP kP,D.p1_a G hg,D.p1_a G (D.sa.inv _ hg)]
/-- Where a part goes onto itself by another: the other is its image and something more. -/
theorem pj_split (G:Gp α) {H X K:α→Prop} (D:DP P H X) (E:DP P K R) (hi:∀ x,H x→pj1 H X (pj1 K R x)=1→x=1) (hs:∀ y,H y→∃ x,H x∧pj1 H X (pj1 K R x)=y) :
  Ism H (img (pj1 K R) H) (pj1 K R)∧DP K (img (pj1 K R) H) (fun y=>K y∧X y):=by
 have hp1:∀ x,H x→P x:=fun x hx=>D.inl G hx
 have hk:∀ x,H x→K (pj1 K R x):=fun x hx=>E.p1_in G (hp1 x hx)
 have hone:pj1 H X 1=1:=D.p1_a G D.sa.one
 have I:Ism H (img (pj1 K R) H) (pj1 K R):=by
  refine ⟨fun x hx=>⟨x,hx,rfl⟩,fun x y hx hy=>E.p1_mul G (hp1 x hx) (hp1 y hy),fun x y hx hy e=>?_,fun _ h=>h⟩
  have h1:x * y⁻¹=1:=hi _ (D.sa.mul _ _ hx (D.sa.inv _ hy)) (by
   rw [E.p1_mul G (hp1 x hx) ((D.sub G).inv _ (hp1 y hy)),E.p1_inv G (hp1 y hy),e,G.inv_r,hone])
  exact G.canr (a:=y⁻¹) (by rw [h1,G.inv_r])
 have s1:=I.sub G G D.sa
 have s2:Sg fun y=>K y∧X y:=⟨⟨E.sa.one,D.sb.one⟩,fun a b ha hb=>⟨E.sa.mul _ _ ha.1 hb.1,D.sb.mul _ _ ha.2 hb.2⟩,fun a ha=>⟨E.sa.inv _ ha.1,D.sb.inv _ ha.2⟩⟩
 have hm:∀ x,img (pj1 K R) H x→(K x∧X x)→x=1:=by
  rintro _ ⟨a,ha,rfl⟩ ⟨_,h2⟩
  rw [hi a ha (D.p1_b G h2),E.p1_a G E.sa.one]
 refine ⟨I,s1,s2,fun a b ha hb=>nml_comm G s1 s2 ?_ ?_ hm ha hb,hm,fun y=>⟨fun hy=>?_,?_⟩⟩
 ·rintro _ t ⟨a,ha,rfl⟩ ⟨ht,_⟩
  have tP:=E.inl G ht
  refine ⟨t * a * t⁻¹,D.nml G ha tP,?_⟩
  rw [E.p1_mul G ((D.sub G).mul _ _ tP (hp1 a ha)) ((D.sub G).inv _ tP),E.p1_mul G tP (hp1 a ha),E.p1_a G ht,E.p1_a G (E.sa.inv _ ht)]
 ·rintro _ t ⟨a,ha,rfl⟩ ⟨ht,ht2⟩
  have kP:=hk a ha
  exact ⟨E.sa.mul _ _ (E.sa.mul _ _ kP ht) (E.sa.inv _ kP),D.symm.nml G ht2 (E.inl G kP)⟩
 ·obtain ⟨x,hx,e⟩:=hs _ (D.p1_in G (E.inl G hy))
  have kx:=hk x hx
  refine ⟨pj1 K R x,(pj1 K R x)⁻¹ * y,⟨x,hx,rfl⟩,⟨E.sa.mul _ _ (E.sa.inv _ kx) hy,?_⟩,(G.ir _ _).symm⟩
  refine D.p1_ker G (E.inl G (E.sa.mul _ _ (E.sa.inv _ kx) hy)) ?_
  rw [D.p1_mul G ((D.sub G).inv _ (E.inl G kx)) (E.inl G hy),D.p1_inv G (E.inl G kx),e,G.inv_l]
 ·rintro ⟨_,b,⟨a,ha,rfl⟩,⟨hb,_⟩,rfl⟩
  exact E.sa.mul _ _ (hk a ha) hb

def DirL:(α→Prop)→List (α→Prop)→Prop
 | P,[]=>∀ x,P x↔x=1
 | P,A :: L=>∃ R,DP P A R∧DirL R L
theorem assoc (G:Gp α) {S T:α→Prop} (D:DP P A R) (E:DP R S T):DP P S (fun x=>∃ a b,A a∧T b∧x=a * b)∧DP (fun x=>∃ a b,A a∧T b∧x=a * b) A T:=by
 have hc:∀ a t,A a→T t→a * t=t * a:=fun a t ha ht=>D.comm a t ha (E.inr G ht)
 have hcs:∀ a t,A a→S t→a * t=t * a:=fun a t ha ht=>D.comm a t ha (E.inl G ht)
 have D2:DP (fun x=>∃ a b,A a∧T b∧x=a * b) A T:=⟨D.sa,E.sb,hc,fun x h1 h2=>D.meet x h1 (E.inr G h2),fun x=>Iff.rfl⟩
 refine ⟨⟨E.sa,D2.sub G,?_,?_,fun x=>?_⟩,D2⟩
 ·rintro s _ hs ⟨a,b,ha,hb,rfl⟩
  rw [← G.assoc,← hcs a s ha hs,G.assoc,E.comm s b hs hb,G.assoc]
 ·rintro x hs ⟨a,b,ha,hb,rfl⟩
  have h1:=D.uniq G D.sa.one (E.inl G hs) ha (E.inr G hb) (G.one_l _)
  have h2:=E.meet b (by rw [← h1.2]; exact hs) hb
  rw [← h1.1,h2,G.one_l]
 ·rw [D.all]
  constructor
  ·rintro ⟨a,r,ha,hr,rfl⟩
   obtain ⟨s,t,hs,ht,rfl⟩:=(E.all r).1 hr
   exact ⟨s,a * t,hs,⟨a,t,ha,ht,rfl⟩,by rw [← G.assoc,hcs a s ha hs,G.assoc]⟩
  ·rintro ⟨s,_,hs,⟨a,t,ha,ht,rfl⟩,rfl⟩
   exact ⟨a,s * t,ha,E.prod hs ht,by rw [← G.assoc,← hcs a s ha hs,G.assoc]⟩

/-- The exchange: a part that is none of two takes the place of one of the others. -/
theorem exch (G:Gp α) {N:Nat} (hN:∀ l:List α,l.Nodup→l.length≤N):∀ (M:List (α→Prop)) (P H X:α→Prop),DirL P M→(∀ K∈M,Ind K)→DP P H X→Ind H →
  ∃ M1 K M2 R,M=M1++K :: M2∧DP P H R∧DirL R (M1++M2)∧∃ φ,Ism H K φ
 | [],P,H,X,hP,_,D,hH=>by
  obtain ⟨_,⟨x,hx,h1⟩,_⟩:=hH
  exact absurd ((hP x).1 (D.inl G hx)) h1
 | K :: M,P,H,X,⟨R,E,hR⟩,hM,D,hH=>by
  have nK:=pj_nend G D E
  have nR:=pj_nend G D E.symm
  have hsum:∀ x,H x→x=pj1 H X (pj1 K R x) * pj1 H X (pj1 R K x):=fun x hx=>by
   have hp:=D.inl G hx
   rw [← D.p1_mul G (E.inl G (E.p1_in G hp)) (E.inr G (E.symm.p1_in G hp)),← E.sum G hp,D.p1_a G hx]
  rcases fitting G hN hH nK with ⟨k,hk⟩ | ⟨h1,h2⟩
  ·
   rcases fitting G hN hH nR with ⟨j,hj⟩ | ⟨h1,h2⟩
   ·exfalso
    obtain ⟨sH,⟨x,hx,hx1⟩,_⟩:=hH
    
    have hex:∃ y,H y∧y ≠ 1∧pj1 H X (pj1 K R y)=1:=by
     have:∀ k x,H x→x ≠ 1→iter (fun x=>pj1 H X (pj1 K R x)) k x=1→∃ y,H y∧y ≠ 1∧pj1 H X (pj1 K R y)=1:=fun k=>by
      induction k with
      | zero=>intro x _ h1 h2; exact absurd h2 h1
      | succ k ih =>
       intro x hx h1 h2
       by_cases h3:pj1 H X (pj1 K R x)=1
       ·exact ⟨x,hx,h1,h3⟩
       ·refine ih _ (nK.to x hx) h3 ?_
        rw [iter_swap (fun x=>pj1 H X (pj1 K R x))]
        exact h2
     exact this k x hx hx1 (hk x hx)
    obtain ⟨y,hy,hy1,he⟩:=hex
    have hf:pj1 H X (pj1 R K y)=y:=by
     have:=hsum y hy
     rw [he,G.one_l] at this
     exact this.symm
    have:∀ j,iter (fun x=>pj1 H X (pj1 R K x)) j y=y:=fun j=>by
     induction j with
     | zero=>rfl
     | succ j ih=>show pj1 H X (pj1 R K (iter _ j y))=y; rw [ih,hf]
    exact hy1 (by rw [← this j]; exact hj y hy)
   ·obtain ⟨I,F⟩:=pj_split G D E.symm h1 h2
    have hI:=Ind.ism G G I hH
    obtain ⟨M1,K1,M2,R',rfl,F',hR',φ,hφ⟩:=exch G hN M R _ _ hR (fun K hK=>hM K (List.mem_cons_of_mem _ hK)) F hI
    obtain ⟨A1,A2⟩:=assoc G E F'
    refine ⟨K :: M1,K1,M2,_,rfl,?_,⟨R',A2,hR'⟩,_,I.trans hφ⟩
    
    have sP:=D.sub G
    have hmt:∀ x,H x→(∃ a b,K a∧R' b∧x=a * b)→x=1:=by
     rintro x hx ⟨a,b,ha,hb,rfl⟩
     have e1:pj1 R K (a * b)=b:=by rw [E.comm a b ha (F'.inr G hb)]; exact E.symm.p1_eq G (F'.inr G hb) ha
     have e2:=F'.meet b ⟨_,hx,e1⟩ hb
     refine h1 _ hx ?_
     rw [e1,e2,D.p1_a G D.sa.one]
    refine ⟨D.sa,A2.sub G,fun a b ha hb=>nml_comm G D.sa (A2.sub G) (fun s t hs ht=>D.nml G hs (A1.inr G ht)) (fun s t hs ht=>A1.symm.nml G ht (D.inl G hs)) hmt ha hb,hmt,fun z=>⟨fun hz=>?_,?_⟩⟩
    ·
     obtain ⟨s,r',⟨x,hx,rfl⟩,hr',e⟩:=(F'.all _).1 (E.symm.p1_in G hz)
     have xP:=D.inl G hx
     refine ⟨x,x⁻¹ * z,hx,?_,(G.ir _ _).symm⟩
     have hp:=sP.mul _ _ (sP.inv _ xP) hz
     have e3:pj1 R K (x⁻¹ * z)=r':=by rw [E.symm.p1_mul G (sP.inv _ xP) hz,E.symm.p1_inv G xP,e,G.il]
     exact ⟨_,r',E.p1_in G hp,hr',by rw [← e3]; exact E.sum G hp⟩
    ·rintro ⟨a,b,ha,hb,rfl⟩
     exact sP.mul _ _ (D.inl G ha) (A1.inr G hb)
  ·obtain ⟨I,F⟩:=pj_split G D E h1 h2
   have hKI:=hM K (List.mem_cons_self ..)
   have hall:∀ y,K y→K y∧X y→y=1:=by
    rcases hKI.2.2 _ _ F with h3 | h3
    ·exfalso
     obtain ⟨sH,⟨x,hx,hx1⟩,_⟩:=hH
     exact hx1 (I.inj _ _ hx sH.one (by rw [h3 _ ⟨x,hx,rfl⟩,E.p1_a G E.sa.one]))
    ·exact fun y _ hy=>h3 y hy
   have hon:∀ y,K y→∃ x,H x∧pj1 K R x=y:=fun y hy=>by
    obtain ⟨a,b,ha,hb,rfl⟩:=(F.all y).1 hy
    rw [hall b hb.1 hb,G.one_r]
    exact ha
   have sP:=D.sub G
   have hmt:∀ x,H x→R x→x=1:=fun x hx hr=>h1 x hx (by rw [E.p1_b G hr,D.p1_a G D.sa.one])
   refine ⟨[],K,M,R,rfl,⟨D.sa,E.sb,fun a b ha hb=>nml_comm G D.sa E.sb (fun s t hs ht=>D.nml G hs (E.inr G ht)) (fun s t hs ht=>E.symm.nml G ht (D.inl G hs)) hmt ha hb,hmt,fun z=>⟨fun hz=>?_,?_⟩⟩,hR,pj1 K R,⟨fun x hx=>E.p1_in G (D.inl G hx),I.mul,I.inj,hon⟩⟩
   ·obtain ⟨x,hx,e⟩:=hon _ (E.p1_in G hz)
    have xP:=D.inl G hx
    have hp:=sP.mul _ _ (sP.inv _ xP) hz
    refine ⟨x,x⁻¹ * z,hx,E.p1_ker G hp ?_,(G.ir _ _).symm⟩
    rw [E.p1_mul G (sP.inv _ xP) hz,E.p1_inv G xP,e,G.inv_l]
   ·rintro ⟨a,b,ha,hb,rfl⟩
    exact sP.mul _ _ (D.inl G ha) (E.inr G hb)
theorem Ism.congr {A A' : α→Prop} {B B' : β→Prop} {φ:α→β} (h:Ism A B φ) (hA:∀ x,A x↔A' x) (hB:∀ x,B x↔B' x):Ism A' B' φ:=
 ⟨fun x hx=>(hB _).1 (h.to x ((hA x).2 hx)),fun x y hx hy=>h.mul x y ((hA x).2 hx) ((hA y).2 hy),fun x y hx hy=>h.inj x y ((hA x).2 hx) ((hA y).2 hy),fun y hy=>by
  obtain ⟨x,hx,e⟩:=h.sur y ((hB y).2 hy)
  exact ⟨x,(hA x).1 hx,e⟩⟩
/-- A direct product goes along an isomorphism. -/
theorem Ism.dirL (G:Gp α) (K:Gp β) {φ:α→β} : ∀ {L:List (α→Prop)} {P:α→Prop} {Q:β→Prop},Ism P Q φ→DirL P L→DirL Q (L.map (img φ))
 | [],P,Q,h,hP=>fun y=>by
  have hs:Sg P:=⟨(hP 1).2 rfl,fun a b ha hb=>by rw [(hP a).1 ha,(hP b).1 hb,G.one_l]; exact (hP 1).2 rfl,fun a ha=>by rw [(hP a).1 ha,G.inv_one]; exact (hP 1).2 rfl⟩
  have h1:=h.one G K hs
  constructor
  ·intro hy
   obtain ⟨x,hx,rfl⟩:=h.sur y hy
   rw [(hP x).1 hx,h1]
  ·rintro rfl
   rw [← h1]; exact h.to _ hs.one
 | A :: L,P,Q,h,⟨R,D,hR⟩=>⟨_,h.dp G K D,(h.of fun x hx=>D.inr G hx).dirL G K hR⟩
theorem DirL.sub_of (G:Gp α):∀ {L:List (α→Prop)} {P:α→Prop},DirL P L→∀ A∈L,Sg A∧∀ x,A x→P x
 | A :: L,P,⟨R,D,hR⟩,B,hB=>by
  rcases List.mem_cons.1 hB with rfl | hB
  ·exact ⟨D.sa,fun x hx=>D.inl G hx⟩
  ·obtain ⟨h1,h2⟩:=DirL.sub_of G hR B hB
   exact ⟨h1,fun x hx=>D.inr G (h2 x hx)⟩
/-- Two lists are the same, one by one, in some order. -/
inductive All2 {α β:Type _} (R:α→β→Prop):List α→List β→Prop
 | nil:All2 R [] []
 | cons {a b l m} : R a b→All2 R l m→All2 R (a :: l) (b :: m)
def Alike (A:α→Prop) (B:β→Prop):Prop:=∃ φ,Ism A B φ
theorem All2.of_map' {α β γ:Type _} {R:α→β→Prop} {S:γ→β→Prop} {f:γ→α} : ∀ {l:List γ} {m:List β},(∀ a∈l,∀ b,R (f a) b→S a b)→All2 R (l.map f) m→All2 S l m
 | [],_,_,h'=>by cases h'; exact .nil
 | a :: l,_,hh,h'=>by
  cases h' with
  | cons h1 h2=>exact .cons (hh a (List.mem_cons_self ..) _ h1) (All2.of_map' (fun x hx=>hh x (List.mem_cons_of_mem _ hx)) h2)
/-- KRULL AND SCHMIDT. -/
theorem ks (G:Gp α) {N:Nat} (hN:∀ l:List α,l.Nodup→l.length≤N):∀ (k:Nat) (L M:List (α→Prop)) (P:α→Prop),L.length=k→DirL P L→DirL P M→(∀ A∈L,Ind A)→(∀ A∈M,Ind A)→∃ M' : List (α→Prop),M'.Perm M∧All2 Alike L M'
 | 0,L,M,P,hk,hL,hM,iL,iM=>by
  obtain rfl:L=[]:=List.length_eq_zero_iff.1 hk
  match M,hM,iM with
  | [],_,_=>exact ⟨[],.nil,.nil⟩
  | K :: M,hM,iM =>
   obtain ⟨_,⟨x,hx,h1⟩,_⟩:=iM K (List.mem_cons_self ..)
   obtain ⟨R,D,_⟩:=hM
   exact absurd ((hL x).1 (D.inl G hx)) h1
 | k + 1,[],M,P,hk,_,_,_,_=>by simp at hk
 | k + 1,H :: L,M,P,hk,⟨X,D,hX⟩,hM,iL,iM=>by
  obtain ⟨M1,K,M2,R,rfl,E,hR,φ,hφ⟩:=exch G hN M P H X hM iM D (iL H (List.mem_cons_self ..))
  have I:Ism X R (pj1 R H):=by
   refine ⟨fun x hx=>E.symm.p1_in G (D.inr G hx),fun x y hx hy=>E.symm.p1_mul G (D.inr G hx) (D.inr G hy),fun x y hx hy e=>?_,fun r hr=>?_⟩
   ·have h1:=D.sb.mul _ _ hx (D.sb.inv _ hy)
    have h2:pj1 R H (x * y⁻¹)=1:=by rw [E.symm.p1_mul G (D.inr G hx) ((D.sub G).inv _ (D.inr G hy)),E.symm.p1_inv G (D.inr G hy),e,G.inv_r]
    have h3:=D.meet _ (E.symm.p1_ker G (D.inr G h1) h2) h1
    exact G.canr (a:=y⁻¹) (by rw [h3,G.inv_r])
   ·have rP:=E.inr G hr
    refine ⟨pj1 X H r,D.symm.p1_in G rP,?_⟩
    have hx:=D.p1_in G rP
    have e:pj1 X H r=(pj1 H X r)⁻¹ * r:=by
     refine G.canc (a:=pj1 H X r) ?_
     rw [G.ir]; exact (D.sum G rP).symm
    rw [e,E.symm.p1_mul G ((D.sub G).inv _ (D.inl G hx)) rP,E.symm.p1_inv G (D.inl G hx),E.symm.p1_b G hx,E.symm.p1_a G hr,G.inv_one,G.one_l]
  have hXs:=DirL.sub_of G hX
  obtain ⟨M',p1,p2⟩:=ks G hN k (L.map (img (pj1 R H))) (M1++M2) R (by simpa using hk) (I.dirL G G hX) hR (fun A hA=>by
   obtain ⟨B,hB,rfl⟩:=List.mem_map.1 hA
   exact Ind.ism G G (I.of (hXs B hB).2) (iL B (List.mem_cons_of_mem _ hB))) (fun A hA=>iM A (by
   rcases List.mem_append.1 hA with h | h
   ·exact List.mem_append_left _ h
   ·exact List.mem_append_right _ (List.mem_cons_of_mem _ h)))
  refine ⟨K :: M',(List.Perm.cons K p1).trans List.perm_middle.symm,.cons ⟨φ,hφ⟩ (p2.of_map' fun A hA B hB=>?_)⟩
  obtain ⟨ψ,hψ⟩:=hB
  exact ⟨_,(I.of (hXs A hA).2).trans hψ⟩
theorem DirL.app (G:Gp α):∀ {L M:List (α→Prop)} {P A B:α→Prop},DP P A B→DirL A L→DirL B M→DirL P (L++M)
 | [],M,P,A,B,D,hA,hB=>by
  have:P=B:=by
   funext x
   refine propext ⟨fun hx=>?_,fun hx=>D.inr G hx⟩
   obtain ⟨a,b,ha,hb,rfl⟩:=(D.all x).1 hx
   rw [(hA a).1 ha,G.one_l]; exact hb
  rw [this]; exact hB
 | S :: L,M,P,A,B,D,⟨R,E,hR⟩,hB=>by
  obtain ⟨A1,A2⟩:=assoc G D.symm E
  exact ⟨_,A1,DirL.app G A2.symm hR hB⟩
/-- In two groups that are alike. -/
theorem ks2 (G:Gp α) (K:Gp β) {N:Nat} (hN:∀ l:List α,l.Nodup→l.length≤N) {P:α→Prop} {Q:β→Prop} {φ:α→β} (hP:Sg P) (h:Ism P Q φ) {L:List (α→Prop)} {M:List (β→Prop)} (hL:DirL P L) (hM:DirL Q M) (iL:∀ A∈L,Ind A) (iM:∀ A∈M,Ind A) :
  ∃ M' : List (β→Prop),M'.Perm M∧All2 Alike L M':=by
 obtain ⟨ψ,hψ⟩:=h.symm hP
 have hMs:=DirL.sub_of K hM
 have hb:∀ B∈M,∃ A,A=img ψ B∧∃ θ:α→β,Ism A B θ:=fun B hB=>⟨_,rfl,(hψ.of (hMs B hB).2).symm (hMs B hB).1⟩
 obtain ⟨M1,p1,p2⟩:=ks G hN L.length L (M.map (img ψ)) P rfl hL (hψ.dirL K G hM) iL (fun A hA=>by
  obtain ⟨B,hB,rfl⟩:=List.mem_map.1 hA
  exact Ind.ism K G (hψ.of (hMs B hB).2) (iM B hB))
 obtain ⟨M',q1,q2⟩:∃ M' : List (β→Prop),M'.Perm M∧M1=M'.map (img ψ):=by
  clear p2 hb hMs hM iM
  generalize hW:M.map (img ψ)=W at p1
  induction p1 generalizing M with
  | nil=>exact ⟨[],by rw [List.map_eq_nil_iff.1 hW],rfl⟩
  | cons x _ ih =>
   cases M with
   | nil=>simp at hW
   | cons B M =>
    rw [List.map_cons] at hW
    obtain ⟨e1,e2⟩:=List.cons.inj hW
    obtain ⟨M',h1,h2⟩:=ih e2
    exact ⟨B :: M',h1.cons B,by rw [List.map_cons,e1,h2]⟩
  | swap x y l =>
   match M,hW with
   | a :: b :: M,hW =>
    simp only [List.map_cons] at hW
    obtain ⟨e1,e2⟩:=List.cons.inj hW
    obtain ⟨e3,e4⟩:=List.cons.inj e2
    exact ⟨b :: a :: M,.swap _ _ _,by simp [e1,e3,e4]⟩
  | trans _ _ ih1 ih2 =>
   obtain ⟨M2,h1,h2⟩:=ih2 hW
   obtain ⟨M3,h3,h4⟩:=ih1 h2.symm
   exact ⟨M3,h3.trans h1,h4⟩
 refine ⟨M',q1,?_⟩
 rw [q2] at p2
 have hsub:∀ B∈M',∃ θ:α→β,Ism (img ψ B) B θ:=fun B hB=>by
  obtain ⟨_,rfl,h⟩:=hb B (q1.mem_iff.1 hB)
  exact h
 clear q2 q1 p1
 clear hL iL
 induction M' generalizing L with
 | nil=>cases p2; exact .nil
 | cons B M' ih =>
  cases p2 with
  | cons h1 h2 =>
   obtain ⟨θ,hθ⟩:=h1
   obtain ⟨χ,hχ⟩:=hsub B (List.mem_cons_self ..)
   exact .cons ⟨_,hθ.trans hχ⟩ (ih h2 fun B hB=>hsub B (List.mem_cons_of_mem _ hB))
end
end Go.Proofs.YtboadfahlflmhaaDoor

/-
  Groups as tables: plain laws, with no program in sight. Conditions: none.
-/
set_option linter.all false
namespace Go.Proofs.YtboadfahlflmhaaDoor
open Go.Pv

/-! ### The first number of which something holds -/

def fst' (p:Nat→Bool) (n:Nat):Option Nat:=(List.range n).find? p

theorem fst_some {p:Nat→Bool} {n a:Nat} (ha:a < n) (hp:p a=true) (hj:∀ j,j < a→p j=false):fst' p n=some a:=by
 unfold fst'
 rw [List.find?_range_eq_some]
 exact ⟨hp,by simp [ha],fun j hj'=>by simp [hj j hj']⟩
theorem fst_none {p:Nat→Bool} {n:Nat} (hj:∀ j,j < n→p j=false):fst' p n=none:=by
 unfold fst'
 rw [List.find?_eq_none]
 intro x hx
 simp [hj x (by simpa using hx)]
theorem fst_spec {p:Nat→Bool} {n a:Nat} (h:fst' p n=some a):a < n∧p a=true∧∀ j,j < a→p j=false:=by
 unfold fst' at h
 rw [List.find?_range_eq_some] at h
 exact ⟨by simpa using h.2.1,h.1,fun j hj=>by simpa using h.2.2 j hj⟩
theorem fst_spec0 {p:Nat→Bool} {n:Nat} (h:fst' p n=none):∀ j,j < n→p j=false:=by
 unfold fst' at h
 rw [List.find?_eq_none] at h
 intro j hj
 simpa using h j (by simpa using hj)

/-! ### Counting -/

theorem nodup_lt {l:List Nat} {n:Nat} (h:l.Nodup) (hl:∀ x∈l,x < n):l.length≤n:=by
 have:=List.Nodup.length_le_of_subset h (l₂:=List.range n) fun x hx=>by simpa using hl x hx
 simpa using this

theorem nodup_map {α β:Type} {f:α→β} {l:List α} (h:l.Nodup) (hf:∀ x∈l,∀ y∈l,f x=f y→x=y):(l.map f).Nodup:=by
 induction l with
 | nil=>simp
 | cons a r ih =>
  rw [List.nodup_cons] at h
  rw [List.map_cons,List.nodup_cons]
  refine ⟨fun hm=>?_,ih h.2 fun x hx y hy=>hf x (by simp [hx]) y (by simp [hy])⟩
  obtain ⟨y,hy,e⟩:=List.mem_map.1 hm
  have:=hf y (by simp [hy]) a (by simp) e
  subst this
  exact h.1 hy

theorem same_len {α:Type} {l1 l2:List α} (h1:l1.Nodup) (h2:l2.Nodup) (h:∀ x,x∈l1↔x∈l2):l1.length=l2.length:=
 ((List.perm_ext_iff_of_nodup h1 h2).2 h).length_eq

/-- One to one among so many numbers: onto. -/
theorem inj_onto {n:Nat} {f:Nat→Nat} (hf:∀ i,i < n→f i < n) (hi:∀ i j,i < n→j < n→f i=f j→i=j) {y:Nat} (hy:y < n):∃ x,x < n∧f x=y:=by
 by_cases h:∃ x,x < n∧f x=y
 ·exact h
 ·exfalso
  have h1:((List.range n).map f).Nodup:=nodup_map List.nodup_range fun x hx z hz=>hi x z (by simpa using hx) (by simpa using hz)
  have h2:(y :: (List.range n).map f).Nodup:=by
   rw [List.nodup_cons]
   refine ⟨fun hm=>?_,h1⟩
   obtain ⟨x,hx,e⟩:=List.mem_map.1 hm
   exact h ⟨x,by simpa using hx,e⟩
  have:=nodup_lt (n:=n) h2 fun x hx=>by
   rcases List.mem_cons.1 hx with rfl | hx
   ·exact hy
   ·obtain ⟨z,hz,rfl⟩:=List.mem_map.1 hx
    exact hf z (by simpa using hz)
  simp at this
  omega

/-- Among more than n numbers below n two are the same. -/
theorem pigeon {n : Nat} {f : Nat → Nat} (hf : ∀ i, i ≤ n → f i < n) : ∃ i j, i < j ∧ j ≤ n ∧ f i = f j := by
  by_cases h : ∃ i j, i < j ∧ j ≤ n ∧ f i = f j
  · exact h
  · exfalso
    have h1 : ((List.range (n + 1)).map f).Nodup := nodup_map List.nodup_range fun x hx z hz e => by
      have hx : x < n + 1 := by simpa using hx
      have hz : z < n + 1 := by simpa using hz
      rcases Nat.lt_trichotomy x z with hlt | he | hlt
      · exact absurd ⟨x, z, hlt, by omega, e⟩ h
      · exact he
      · exact absurd ⟨z, x, hlt, by omega, e.symm⟩ h
    have := nodup_lt (n := n) h1 fun x hx => by
      obtain ⟨z, hz, rfl⟩ := List.mem_map.1 hx
      exact hf z (by have : z < n + 1 := by simpa using hz
                     omega)
    simp at this
    omega

/-- CLASSES of one size: it divides the whole. -/
theorem classes {α:Type} {k:Nat} {r:α→α→Bool} : ∀ (n:Nat) (l:List α),l.length=n→l.Nodup→(∀ x∈l,r x x=true)→(∀ x∈l,∀ y∈l,r x y=true→r y x=true) →
  (∀ x∈l,∀ y∈l,∀ z∈l,r x y=true→r y z=true→r x z=true)→(∀ x∈l,(l.filter (r x)).length=k)→k ∣ l.length:=by
 intro n
 induction n using Nat.strongRecOn with
 | _ n ih =>
  intro l hn hnd hr hs ht hk
  cases l with
  | nil=>exact ⟨0,rfl⟩
  | cons a t =>
   have hsplit:(a :: t).length=((a :: t).filter (r a)).length + ((a :: t).filter (fun x=>!r a x)).length:=by
    have:=List.length_eq_countP_add_countP (r a) (l:=a :: t)
    simp only [List.countP_eq_length_filter] at this
    rw [this]
    congr 3
    funext x
    cases r a x<;>simp
   have hka:=hk a (by simp)
   have hmem:∀ x,x∈(a :: t).filter (fun x=>!r a x)↔x∈a :: t∧r a x=false:=by
    intro x; rw [List.mem_filter]; simp
   have hpos:0 < ((a :: t).filter (r a)).length:=by
    apply List.length_pos_of_mem (a:=a)
    rw [List.mem_filter]
    exact ⟨by simp,hr a (by simp)⟩
   have hrec:=ih ((a :: t).filter (fun x=>!r a x)).length (by omega) _ rfl (hnd.filter _) (fun x hx=>hr x ((hmem x).1 hx).1)
    (fun x hx y hy=>hs x ((hmem x).1 hx).1 y ((hmem y).1 hy).1)
    (fun x hx y hy z hz=>ht x ((hmem x).1 hx).1 y ((hmem y).1 hy).1 z ((hmem z).1 hz).1)
    (fun x hx=>by
     obtain ⟨hx1,hx2⟩:=(hmem x).1 hx
     rw [← hk x hx1,List.filter_filter]
     congr 1
     apply List.filter_congr
     intro y hy
     cases hxy:r x y
     ·simp
     ·have:r a y=false:=by
       cases hay:r a y
       ·rfl
       ·have h1:=hs x hx1 y hy hxy
        have:=ht a (by simp) y hy x hx1 hay h1
        rw [hx2] at this; cases this
      simp [this])
   rw [hsplit,hka]
   exact Nat.dvd_add (Nat.dvd_refl k) hrec

/-! ### Groups -/

structure Grp (n:Nat) (f:Nat→Nat→Nat) (e:Nat):Prop where
 pos:0 < n
 cl:∀ a b,a < n→b < n→f a b < n
 el:e < n
 one_l:∀ a,a < n→f e a=a
 one_r:∀ a,a < n→f a e=a
 assoc:∀ a b c,a < n→b < n→c < n→f (f a b) c=f a (f b c)
 inv:∀ a,a < n→∃ b,b < n∧f a b=e∧f b a=e

/-- The inverse. -/
def iv (n:Nat) (f:Nat→Nat→Nat) (e a:Nat):Nat:=(fst' (fun b=>decide (f a b=e)) n).getD 0

def pw (f:Nat→Nat→Nat) (e a:Nat):Nat→Nat
 | 0=>e
 | k + 1=>f (pw f e a k) a

def ord (n:Nat) (f:Nat→Nat→Nat) (e a:Nat):Nat:=(fst' (fun k=>decide (1≤k∧pw f e a k=e)) (n + 1)).getD 0

section
variable {n:Nat} {f:Nat→Nat→Nat} {e:Nat}

theorem Grp.cancel_l (G:Grp n f e) {a b c:Nat} (ha:a < n) (hb:b < n) (hc:c < n) (h:f a b=f a c):b=c:=by
 obtain ⟨i,hi,_,h2⟩:=G.inv a ha
 have h1:f i (f a b)=f i (f a c):=by rw [h]
 rwa [← G.assoc i a b hi ha hb,← G.assoc i a c hi ha hc,h2,G.one_l b hb,G.one_l c hc] at h1
theorem Grp.cancel_r (G:Grp n f e) {a b c:Nat} (ha:a < n) (hb:b < n) (hc:c < n) (h:f b a=f c a):b=c:=by
 obtain ⟨i,hi,h2,_⟩:=G.inv a ha
 have h1:f (f b a) i=f (f c a) i:=by rw [h]
 rwa [G.assoc b a i hb ha hi,G.assoc c a i hc ha hi,h2,G.one_r b hb,G.one_r c hc] at h1

theorem Grp.iv_spec (G:Grp n f e) {a:Nat} (ha:a < n):iv n f e a < n∧f a (iv n f e a)=e∧f (iv n f e a) a=e∧∀ b,b < n→(f a b=e∨f b a=e)→b=iv n f e a:=by
 obtain ⟨b,hb,h1,h2⟩:=G.inv a ha
 have hu:∀ c,c < n→(f a c=e∨f c a=e)→c=b:=by
  intro c hc h
  rcases h with h | h
  ·exact G.cancel_l ha hc hb (by rw [h,h1])
  ·exact G.cancel_r ha hc hb (by rw [h,h2])
 have hfs:fst' (fun b=>decide (f a b=e)) n=some b:=fst_some hb (by simp [h1]) fun j hj=>by
  by_cases hj2:f a j=e
  ·have:=hu j (by omega) (.inl hj2); omega
  ·simp [hj2]
 have:iv n f e a=b:=by unfold iv; rw [hfs]; rfl
 rw [this]
 exact ⟨hb,h1,h2,hu⟩
theorem Grp.iv_lt (G:Grp n f e) {a:Nat} (ha:a < n):iv n f e a < n:=(G.iv_spec ha).1
theorem Grp.mul_iv (G:Grp n f e) {a:Nat} (ha:a < n):f a (iv n f e a)=e:=(G.iv_spec ha).2.1
theorem Grp.iv_mul (G:Grp n f e) {a:Nat} (ha:a < n):f (iv n f e a) a=e:=(G.iv_spec ha).2.2.1
theorem Grp.iv_unique (G:Grp n f e) {a b:Nat} (ha:a < n) (hb:b < n) (h:f a b=e∨f b a=e):b=iv n f e a:=(G.iv_spec ha).2.2.2 b hb h
theorem Grp.iv_iv (G:Grp n f e) {a:Nat} (ha:a < n):iv n f e (iv n f e a)=a:=(G.iv_unique (G.iv_lt ha) ha (.inl (G.iv_mul ha))).symm
theorem Grp.iv_prod (G:Grp n f e) {a b:Nat} (ha:a < n) (hb:b < n):iv n f e (f a b)=f (iv n f e b) (iv n f e a):=by
 have h1:=G.iv_lt ha
 have h2:=G.iv_lt hb
 refine (G.iv_unique (G.cl a b ha hb) (G.cl _ _ h2 h1) (.inl ?_)).symm
 rw [G.assoc a b _ ha hb (G.cl _ _ h2 h1),← G.assoc b _ _ hb h2 h1,G.mul_iv hb,G.one_l _ h1,G.mul_iv ha]
theorem Grp.iv_one (G:Grp n f e):iv n f e e=e:=(G.iv_unique G.el G.el (.inl (G.one_l e G.el))).symm

/-- Whose square is itself is the one. -/
theorem Grp.idem (G:Grp n f e) {a:Nat} (ha:a < n):f a a=a↔a=e:=
 ⟨fun h=>G.cancel_l ha ha G.el (by rw [h,G.one_r a ha]),fun h=>by subst h; exact G.one_l _ ha⟩

theorem Grp.pw_lt (G:Grp n f e) {a:Nat} (ha:a < n):∀ k,pw f e a k < n
 | 0=>G.el
 | k + 1=>G.cl _ _ (G.pw_lt ha k) ha
theorem Grp.pw_one (G:Grp n f e) {a:Nat} (ha:a < n):pw f e a 1=a:=G.one_l a ha
theorem Grp.pw_add (G:Grp n f e) {a:Nat} (ha:a < n) (i:Nat):∀ j,pw f e a (i + j)=f (pw f e a i) (pw f e a j)
 | 0=>by rw [Nat.add_zero]; exact (G.one_r _ (G.pw_lt ha i)).symm
 | j + 1=>by
  rw [← Nat.add_assoc]
  show f (pw f e a (i + j)) a=f (pw f e a i) (f (pw f e a j) a)
  rw [G.pw_add ha i j,G.assoc _ _ _ (G.pw_lt ha i) (G.pw_lt ha j) ha]
theorem Grp.pw_mul (G:Grp n f e) {a:Nat} (ha:a < n) (i:Nat):∀ j,pw f e a (i * j)=pw f e (pw f e a i) j
 | 0=>rfl
 | j + 1=>by rw [Nat.mul_succ,G.pw_add ha,G.pw_mul ha i j]; rfl
theorem Grp.pw_e (G:Grp n f e):∀ k,pw f e e k=e
 | 0=>rfl
 | k + 1=>by show f (pw f e e k) e=e; rw [G.pw_e k,G.one_l e G.el]
theorem Grp.ord_spec (G:Grp n f e) {a:Nat} (ha:a < n):1≤ord n f e a∧ord n f e a≤n∧pw f e a (ord n f e a)=e∧∀ k,1≤k→k < ord n f e a→pw f e a k ≠ e:=by
 cases h:fst' (fun k=>decide (1≤k∧pw f e a k=e)) (n + 1) with
 | none =>
  exfalso
  obtain ⟨i,j,hij,hj,he⟩:=pigeon (n:=n) (f:=pw f e a) fun i _=>G.pw_lt ha i
  have:=fst_spec0 h (j - i) (by omega)
  have h2:pw f e a (j - i)=e:=by
   have h3:=G.pw_add ha i (j - i)
   rw [show i + (j - i)=j by omega,← he] at h3
   exact (G.cancel_l (G.pw_lt ha i) G.el (G.pw_lt ha _) (by rw [← h3,G.one_r _ (G.pw_lt ha i)])).symm
  simp [h2] at this
  omega
 | some k =>
  have e1:ord n f e a=k:=by unfold ord; rw [h]; rfl
  obtain ⟨h1,h2,h3⟩:=fst_spec h
  rw [e1]
  have h2:=of_decide_eq_true h2
  refine ⟨h2.1,by omega,h2.2,fun j hj hjk hje=>?_⟩
  have:=of_decide_eq_false (h3 j hjk)
  exact this ⟨hj,hje⟩
theorem Grp.ord_pos (G:Grp n f e) {a:Nat} (ha:a < n):1≤ord n f e a:=(G.ord_spec ha).1
theorem Grp.pw_ord (G:Grp n f e) {a:Nat} (ha:a < n):pw f e a (ord n f e a)=e:=(G.ord_spec ha).2.2.1
theorem Grp.pw_mod (G:Grp n f e) {a:Nat} (ha:a < n) (k:Nat):pw f e a (k % ord n f e a)=pw f e a k:=by
 conv=>rhs; rw [← Nat.div_add_mod k (ord n f e a)]
 rw [G.pw_add ha,G.pw_mul ha,G.pw_ord ha,G.pw_e,G.one_l _ (G.pw_lt ha _)]
theorem Grp.pw_eq_one (G:Grp n f e) {a:Nat} (ha:a < n) (k:Nat):pw f e a k=e↔ord n f e a ∣ k:=by
 constructor
 ·intro h
  rw [← G.pw_mod ha] at h
  have:=(G.ord_spec ha).2.2.2 (k % ord n f e a)
  have h1:=Nat.mod_lt k (G.ord_pos ha)
  apply Nat.dvd_of_mod_eq_zero
  rcases Nat.eq_zero_or_pos (k % ord n f e a) with h0 | h0
  ·exact h0
  ·exact absurd h (this h0 h1)
 ·rintro ⟨m,rfl⟩
  rw [G.pw_mul ha,G.pw_ord ha,G.pw_e]
end

end Go.Proofs.YtboadfahlflmhaaDoor

/-
  Plain law: a group on a list of things is a group on numbers; a subgroup's Lagrange. Conditions: none.
-/
set_option linter.all false
namespace Go.Proofs.YtboadfahlflmhaaDoor
open Go.Pv

/-- A group on a list of things. -/
structure GS (S:List Nat) (f:Nat→Nat→Nat) (e:Nat):Prop where
 nd:S.Nodup
 cl:∀ a b,a∈S→b∈S→f a b∈S
 el:e∈S
 one_l:∀ a,a∈S→f e a=a
 one_r:∀ a,a∈S→f a e=a
 assoc:∀ a b c,a∈S→b∈S→c∈S→f (f a b) c=f a (f b c)
 inv:∀ a,a∈S→∃ b,b∈S∧f a b=e∧f b a=e

/-- The place of a thing. -/
def plc (S:List Nat) (x:Nat):Nat:=(fst' (fun i=>decide (S.getD i 0=x)) S.length).getD 0

theorem plc_spec {S:List Nat} {x:Nat} (hx:x∈S):plc S x < S.length∧S.getD (plc S x) 0=x:=by
 unfold plc
 cases h:fst' (fun i=>decide (S.getD i 0=x)) S.length with
 | none =>
  obtain ⟨i,hi,he⟩:=List.getElem_of_mem hx
  have:=fst_spec0 h i hi
  simp [List.getD,List.getElem?_eq_getElem hi,he] at this
 | some a =>
  obtain ⟨h1,h2,_⟩:=fst_spec h
  exact ⟨h1,by simpa using h2⟩
theorem at_mem {S:List Nat} {i:Nat} (hi:i < S.length):S.getD i 0∈S:=by
 simp [List.getD,List.getElem?_eq_getElem hi]
theorem at_inj {S:List Nat} (h:S.Nodup) {i j:Nat} (hi:i < S.length) (hj:j < S.length) (he:S.getD i 0=S.getD j 0):i=j:=by
 simp only [List.getD,List.getElem?_eq_getElem hi,List.getElem?_eq_getElem hj,Option.getD_some] at he
 rcases Nat.lt_trichotomy i j with hl | hl | hl
 ·exact absurd he (List.pairwise_iff_getElem.1 h i j hi hj hl)
 ·exact hl
 ·exact absurd he.symm (List.pairwise_iff_getElem.1 h j i hj hi hl)
theorem plc_at {S:List Nat} (h:S.Nodup) {i:Nat} (hi:i < S.length):plc S (S.getD i 0)=i:=
 at_inj h (plc_spec (at_mem hi)).1 hi (plc_spec (at_mem hi)).2

def idf (S:List Nat) (f:Nat→Nat→Nat) (i j:Nat):Nat:=plc S (f (S.getD i 0) (S.getD j 0))

section
variable {S:List Nat} {f:Nat→Nat→Nat} {e:Nat}
theorem GS.at_idf (G:GS S f e) {i j:Nat} (hi:i < S.length) (hj:j < S.length):S.getD (idf S f i j) 0=f (S.getD i 0) (S.getD j 0):=
 (plc_spec (G.cl _ _ (at_mem hi) (at_mem hj))).2
theorem GS.idf_lt (G:GS S f e) {i j:Nat} (hi:i < S.length) (hj:j < S.length):idf S f i j < S.length:=
 (plc_spec (G.cl _ _ (at_mem hi) (at_mem hj))).1
theorem GS.grp (G:GS S f e):Grp S.length (idf S f) (plc S e) where
 pos:=List.length_pos_of_mem G.el
 cl a b ha hb:=G.idf_lt ha hb
 el:=(plc_spec G.el).1
 one_l a ha:=by unfold idf; rw [(plc_spec G.el).2,G.one_l _ (at_mem ha),plc_at G.nd ha]
 one_r a ha:=by unfold idf; rw [(plc_spec G.el).2,G.one_r _ (at_mem ha),plc_at G.nd ha]
 assoc a b c ha hb hc:=by
  show plc S (f (S.getD (idf S f a b) 0) (S.getD c 0))=plc S (f (S.getD a 0) (S.getD (idf S f b c) 0))
  rw [G.at_idf ha hb,G.at_idf hb hc,G.assoc _ _ _ (at_mem ha) (at_mem hb) (at_mem hc)]
 inv a ha:=by
  obtain ⟨b,hb,h1,h2⟩:=G.inv _ (at_mem ha)
  exact ⟨plc S b,(plc_spec hb).1,by unfold idf; rw [(plc_spec hb).2,h1],by unfold idf; rw [(plc_spec hb).2,h2]⟩
end

/-! ### Subgroups of a group -/

section
variable {n:Nat} {f:Nat→Nat→Nat} {e:Nat}

/-- A subgroup, as a test. -/
structure Sub (n:Nat) (f:Nat→Nat→Nat) (e:Nat) (H:Nat→Bool):Prop where
 one:H e=true
 mul:∀ a b,a < n→b < n→H a=true→H b=true→H (f a b)=true
 inv:∀ a,a < n→H a=true→H (iv n f e a)=true

def mem (n:Nat) (H:Nat→Bool):List Nat:=(List.range n).filter H
theorem mem_mem {H:Nat→Bool} {a:Nat} : a∈mem n H↔a < n∧H a=true:=by simp [mem]

theorem Sub.gs {H:Nat→Bool} (G:Grp n f e) (h:Sub n f e H):GS (mem n H) f e where
 nd:=List.nodup_range.filter _
 cl a b ha hb:=by
  obtain ⟨a1,a2⟩:=mem_mem.1 ha
  obtain ⟨b1,b2⟩:=mem_mem.1 hb
  exact mem_mem.2 ⟨G.cl a b a1 b1,h.mul a b a1 b1 a2 b2⟩
 el:=mem_mem.2 ⟨G.el,h.one⟩
 one_l a ha:=G.one_l a (mem_mem.1 ha).1
 one_r a ha:=G.one_r a (mem_mem.1 ha).1
 assoc a b c ha hb hc:=G.assoc a b c (mem_mem.1 ha).1 (mem_mem.1 hb).1 (mem_mem.1 hc).1
 inv a ha:=by
  obtain ⟨a1,a2⟩:=mem_mem.1 ha
  exact ⟨iv n f e a,mem_mem.2 ⟨G.iv_lt a1,h.inv a a1 a2⟩,G.mul_iv a1,G.iv_mul a1⟩

/-- LAGRANGE for a subgroup, within a greater one: left cosets are as many things each. -/
theorem Sub.dvd {H K:Nat→Bool} (G:Grp n f e) (h:Sub n f e H) (hK:∀ a b,a < n→b < n→K a=true→H b=true→K (f a b)=true):(mem n H).length ∣ (mem n K).length:=by
 have key:∀ a b,a < n→b < n→f (iv n f e b) a=iv n f e (f (iv n f e a) b):=by
  intro a b ha hb
  rw [G.iv_prod (G.iv_lt ha) hb,G.iv_iv ha]
 refine classes (r:=fun a b=>H (f (iv n f e a) b)) _ _ rfl (List.nodup_range.filter _) ?_ ?_ ?_ ?_
 ·intro a ha
  obtain ⟨a1,_⟩:=mem_mem.1 ha
  show H (f (iv n f e a) a)=true
  rw [G.iv_mul a1]; exact h.one
 ·intro a ha b hb hab
  obtain ⟨a1,_⟩:=mem_mem.1 ha
  obtain ⟨b1,_⟩:=mem_mem.1 hb
  show H (f (iv n f e b) a)=true
  rw [key a b a1 b1]
  exact h.inv _ (G.cl _ _ (G.iv_lt a1) b1) hab
 ·intro a ha b hb c hc hab hbc
  obtain ⟨a1,_⟩:=mem_mem.1 ha
  obtain ⟨b1,_⟩:=mem_mem.1 hb
  obtain ⟨c1,_⟩:=mem_mem.1 hc
  show H (f (iv n f e a) c)=true
  have:f (iv n f e a) c=f (f (iv n f e a) b) (f (iv n f e b) c):=by
   rw [G.assoc _ _ _ (G.iv_lt a1) b1 (G.cl _ _ (G.iv_lt b1) c1),← G.assoc b _ c b1 (G.iv_lt b1) c1,G.mul_iv b1,G.one_l c c1]
  rw [this]
  exact h.mul _ _ (G.cl _ _ (G.iv_lt a1) b1) (G.cl _ _ (G.iv_lt b1) c1) hab hbc
 ·intro a ha
  obtain ⟨a1,a2⟩:=mem_mem.1 ha
  have hlm:((mem n H).map (fun x=>f a x)).length=(mem n H).length:=by simp
  rw [← hlm]
  refine same_len ((List.nodup_range.filter _).filter _) (nodup_map (List.nodup_range.filter _) fun x hx y hy he=>G.cancel_l a1 (mem_mem.1 hx).1 (mem_mem.1 hy).1 he) fun y=>?_
  constructor
  ·intro hy
   obtain ⟨hy1,hy2⟩:=List.mem_filter.1 hy
   have y1:=(mem_mem.1 hy1).1
   refine List.mem_map.2 ⟨f (iv n f e a) y,mem_mem.2 ⟨G.cl _ _ (G.iv_lt a1) y1,hy2⟩,?_⟩
   show f a (f (iv n f e a) y)=y
   rw [← G.assoc a _ y a1 (G.iv_lt a1) y1,G.mul_iv a1,G.one_l y y1]
  ·intro hy
   obtain ⟨x,hx,rfl⟩:=List.mem_map.1 hy
   obtain ⟨x1,x2⟩:=mem_mem.1 hx
   refine List.mem_filter.2 ⟨mem_mem.2 ⟨G.cl a x a1 x1,hK a x a1 x1 a2 x2⟩,?_⟩
   show H (f (iv n f e a) (f a x))=true
   rw [← G.assoc _ a x (G.iv_lt a1) a1 x1,G.iv_mul a1,G.one_l x x1]
   exact x2
end
end Go.Proofs.YtboadfahlflmhaaDoor

/-
  Plain law: what a set of things makes. Conditions: none.
-/
set_option linter.all false
namespace Go.Proofs.YtboadfahlflmhaaDoor
open Go.Pv

/-- What a set makes: the one; what is made, times one of the set. -/
inductive Gen (n:Nat) (f:Nat→Nat→Nat) (e:Nat) (p:Nat→Bool):Nat→Prop
 | one:Gen n f e p e
 | step (a b:Nat):Gen n f e p a→b < n→p b=true→Gen n f e p (f a b)

section
variable {n:Nat} {f:Nat→Nat→Nat} {e:Nat} {p q:Nat→Bool}

theorem Gen.lt (G:Grp n f e) {a:Nat} (h:Gen n f e p a):a < n:=by
 induction h with
 | one=>exact G.el
 | step a b _ hb _ ih=>exact G.cl a b ih hb
theorem Gen.mem (G:Grp n f e) {b:Nat} (hb:b < n) (h:p b=true):Gen n f e p b:=by
 have:=Gen.step (f:=f) e b (Gen.one) hb h
 rwa [G.one_l b hb] at this
theorem Gen.mul (G:Grp n f e) {a b:Nat} (ha:Gen n f e p a) (hb:Gen n f e p b):Gen n f e p (f a b):=by
 induction hb with
 | one=>rw [G.one_r a (ha.lt G)]; exact ha
 | step c d hc hd hp ih =>
  rw [← G.assoc a c d (ha.lt G) (hc.lt G) hd]
  exact .step _ d ih hd hp
theorem Gen.pw (G:Grp n f e) {a:Nat} (ha:Gen n f e p a):∀ k,Gen n f e p (pw f e a k)
 | 0=>.one
 | k + 1=>Gen.mul G (Gen.pw G ha k) ha
theorem Grp.iv_pw (G:Grp n f e) {a:Nat} (ha:a < n):iv n f e a=Go.Proofs.YtboadfahlflmhaaDoor.pw f e a (ord n f e a - 1):=by
 refine (G.iv_unique ha (G.pw_lt ha _) (.inr ?_)).symm
 have h:=G.pw_ord ha
 have o:=G.ord_pos ha
 rw [show ord n f e a=(ord n f e a - 1) + 1 by omega] at h
 exact h
theorem Gen.iv (G:Grp n f e) {a:Nat} (ha:Gen n f e p a):Gen n f e p (iv n f e a):=by
 rw [G.iv_pw (ha.lt G)]
 exact Gen.pw G ha _
theorem Gen.least {H:Nat→Prop} (h1:H e) (h2:∀ a b,Gen n f e p a→b < n→p b=true→H a→H (f a b)) {a:Nat} (h:Gen n f e p a):H a:=by
 induction h with
 | one=>exact h1
 | step a b ha hb hp ih=>exact h2 a b ha hb hp ih
/-- In a subgroup that has the set is what the set makes. -/
theorem Gen.sub {H:Nat→Bool} (G:Grp n f e) (hH:Sub n f e H) (hp:∀ b,b < n→p b=true→H b=true) {a:Nat} (h:Gen n f e p a):H a=true:=by
 induction h with
 | one=>exact hH.one
 | step a b ha hb hpb ih=>exact hH.mul a b (ha.lt G) hb ih (hp b hb hpb)
theorem Gen.mono (h:∀ b,b < n→p b=true→q b=true) {a:Nat} (ha:Gen n f e p a):Gen n f e q a:=by
 induction ha with
 | one=>exact .one
 | step a b _ hb hp ih=>exact .step a b ih hb (h b hb hp)
theorem gen_sub (G:Grp n f e) (hq:∀ a,a < n→(q a=true↔Gen n f e p a)):Sub n f e q where
 one:=(hq e G.el).2 .one
 mul a b ha hb h1 h2:=(hq _ (G.cl a b ha hb)).2 (Gen.mul G ((hq a ha).1 h1) ((hq b hb).1 h2))
 inv a ha h:=(hq _ (G.iv_lt ha)).2 (Gen.iv G ((hq a ha).1 h))
theorem gen_ex (n:Nat) (f:Nat→Nat→Nat) (e:Nat) (p:Nat→Bool):∃ q:Nat→Bool,∀ a,a < n→(q a=true↔Gen n f e p a):=
 ⟨fun a=>@decide (Gen n f e p a) (Classical.propDecidable _),fun a _=>by simp⟩
/-- A subgroup is made by itself. -/
theorem Sub.gen (G:Grp n f e) (hp:Sub n f e p) {a:Nat} (ha:a < n):p a=true↔Gen n f e p a:=
 ⟨fun h=>Gen.mem G ha h,fun h=>Gen.sub G hp (fun _ _ h=>h) h⟩
/-- A set that has the one and all products is a subgroup. -/
theorem sub_of (G:Grp n f e) (h1:p e=true) (h2:∀ a b,a < n→b < n→p a=true→p b=true→p (f a b)=true):Sub n f e p where
 one:=h1
 mul:=h2
 inv a ha h:=by
  rw [G.iv_pw ha]
  generalize ord n f e a - 1=k
  induction k with
  | zero=>exact h1
  | succ k ih=>exact h2 _ _ (G.pw_lt ha k) ha ih h
end
end Go.Proofs.YtboadfahlflmhaaDoor

/-
  Plain law, FROBENIUS' THEOREM, its first part: things whose orders have a power of p come by generators of cyclic subgroups. Conditions: none.
-/
set_option linter.all false
namespace Go.Proofs.YtboadfahlflmhaaDoor
open Go.Pv

section
variable {n:Nat} {f:Nat→Nat→Nat} {e:Nat}

end
end Go.Proofs.YtboadfahlflmhaaDoor

/-
  Plain law, FROBENIUS' THEOREM, its second part: centralisers, and what they are after a cyclic part of the centre. Conditions: none.
-/
set_option linter.all false
namespace Go.Proofs.YtboadfahlflmhaaDoor
open Go.Pv

/-- DOUBLE COUNTING. -/
theorem sum_filter {α β:Type} (R:α→β→Bool) (L1:List α):∀ L2:List β,(L1.map fun a=>(L2.filter (R a)).length).sum=(L2.map fun b=>(L1.filter fun a=>R a b).length).sum
 | []=>by induction L1 with
  | nil=>rfl
  | cons a t ih=>simpa using ih
 | b :: t=>by
  have ih:=sum_filter R L1 t
  have:(L1.map fun a=>((b :: t).filter (R a)).length).sum=(L1.filter fun a=>R a b).length + (L1.map fun a=>(t.filter (R a)).length).sum:=by
   clear ih
   induction L1 with
   | nil=>rfl
   | cons a u ihu =>
    have h1:((b :: t).filter (R a)).length=(if R a b then 1 else 0) + (t.filter (R a)).length:=by
     rw [List.filter_cons]; cases R a b<;>simp<;>omega
    have h2:((a :: u).filter fun a=>R a b).length=(if R a b then 1 else 0) + (u.filter fun a=>R a b).length:=by
     rw [List.filter_cons]; cases R a b<;>simp<;>omega
    rw [List.map_cons,List.sum_cons,ihu,List.map_cons,List.sum_cons,h1,h2]
    omega
  rw [this,ih]; simp
theorem sum_const {α:Type} {g:α→Nat} {c:Nat} : ∀ {l:List α},(∀ a∈l,g a=c)→(l.map g).sum=l.length * c
 | [],_=>by simp
 | a :: t,h=>by
  rw [List.map_cons,List.sum_cons,h a (by simp),sum_const (fun x hx=>h x (by simp [hx])),List.length_cons,Nat.succ_mul]; omega
theorem dbl {α β:Type} (R:α→β→Bool) {L1:List α} {L2:List β} {c1 c2:Nat} (h1:∀ a∈L1,(L2.filter (R a)).length=c1) (h2:∀ b∈L2,(L1.filter fun a=>R a b).length=c2):L1.length * c1=L2.length * c2:=by
 rw [← sum_const h1,← sum_const h2,sum_filter]

section
variable {n:Nat} {f:Nat→Nat→Nat} {e:Nat}

/-- What commutes with y. -/
def cen (f:Nat→Nat→Nat) (y x:Nat):Bool:=decide (f x y=f y x)
end
end Go.Proofs.YtboadfahlflmhaaDoor

/-
  Plain law: products of two subgroups; THE PRODUCT FORMULA; DEDEKIND's law; commutators. Conditions: none.
-/
set_option linter.all false
namespace Go.Proofs.YtboadfahlflmhaaDoor
open Go.Pv

section
variable {n:Nat} {f:Nat→Nat→Nat} {e:Nat}

/-- What is a thing of the first times a thing of the second. -/
def pr2 (n:Nat) (f:Nat→Nat→Nat) (e:Nat) (a b:Nat→Bool) (x:Nat):Bool:=decide (∃ i,i < n∧a i=true∧b (f (iv n f e i) x)=true)
theorem pr2_iff {a b:Nat→Bool} {x:Nat} : pr2 n f e a b x=true↔∃ i,i < n∧a i=true∧b (f (iv n f e i) x)=true:=by unfold pr2; exact decide_eq_true_iff

theorem Sub.and {a b:Nat→Bool} (ha:Sub n f e a) (hb:Sub n f e b):Sub n f e fun x=>a x && b x where
 one:=by simp [ha.one,hb.one]
 mul x y hx hy h1 h2:=by
  rw [Bool.and_eq_true] at *
  exact ⟨ha.mul x y hx hy h1.1 h2.1,hb.mul x y hx hy h1.2 h2.2⟩
 inv x hx h:=by
  rw [Bool.and_eq_true] at *
  exact ⟨ha.inv x hx h.1,hb.inv x hx h.2⟩

/-- THE PRODUCT FORMULA. -/
theorem Grp.prod_count (G:Grp n f e) {a b:Nat→Bool} (ha:Sub n f e a) (hb:Sub n f e b):(mem n (pr2 n f e a b)).length * (mem n fun x=>a x && b x).length=(mem n a).length * (mem n b).length:=by
 refine dbl (fun x i=>b (f (iv n f e i) x)) (fun x hx=>?_) fun i hi=>?_
 ·obtain ⟨x1,x2⟩:=mem_mem.1 hx
  obtain ⟨i0,i1,i2,i3⟩:=pr2_iff.1 x2
  have ii:=G.iv_lt i1
  rw [← List.length_map (f:=fun c=>f i0 c) («as»:=mem n fun x=>a x && b x)]
  refine same_len ((List.nodup_range.filter _).filter _) (nodup_map (List.nodup_range.filter _) fun u hu v hv he=>G.cancel_l i1 (mem_mem.1 hu).1 (mem_mem.1 hv).1 he) fun y=>?_
  rw [List.mem_filter,mem_mem,List.mem_map]
  constructor
  ·rintro ⟨⟨y1,y2⟩,y3⟩
   have iy:=G.iv_lt y1
   refine ⟨f (iv n f e i0) y,mem_mem.2 ⟨G.cl _ _ ii y1,?_⟩,by rw [← G.assoc _ _ _ i1 ii y1,G.mul_iv i1,G.one_l y y1]⟩
   rw [Bool.and_eq_true]
   refine ⟨ha.mul _ _ ii y1 (ha.inv _ i1 i2) y2,?_⟩
   have h1:=hb.mul _ _ (G.cl _ _ ii x1) (G.iv_lt (G.cl _ _ iy x1)) i3 (hb.inv _ (G.cl _ _ iy x1) y3)
   rw [G.iv_prod iy x1,G.iv_iv y1,G.assoc _ _ _ ii x1 (G.cl _ _ (G.iv_lt x1) y1),← G.assoc x _ y x1 (G.iv_lt x1) y1,G.mul_iv x1,G.one_l y y1] at h1
   exact h1
  ·rintro ⟨c,hc,rfl⟩
   obtain ⟨c1,c2⟩:=mem_mem.1 hc
   rw [Bool.and_eq_true] at c2
   refine ⟨⟨G.cl _ _ i1 c1,ha.mul _ _ i1 c1 i2 c2.1⟩,?_⟩
   rw [G.iv_prod i1 c1,G.assoc _ _ _ (G.iv_lt c1) ii x1]
   exact hb.mul _ _ (G.iv_lt c1) (G.cl _ _ ii x1) (hb.inv _ c1 c2.2) i3
 ·obtain ⟨i1,i2⟩:=mem_mem.1 hi
  have ii:=G.iv_lt i1
  rw [← List.length_map (f:=fun c=>f i c) («as»:=mem n b)]
  refine same_len ((List.nodup_range.filter _).filter _) (nodup_map (List.nodup_range.filter _) fun u hu v hv he=>G.cancel_l i1 (mem_mem.1 hu).1 (mem_mem.1 hv).1 he) fun y=>?_
  rw [List.mem_filter,mem_mem,List.mem_map]
  constructor
  ·rintro ⟨⟨y1,y2⟩,y3⟩
   exact ⟨f (iv n f e i) y,mem_mem.2 ⟨G.cl _ _ ii y1,y3⟩,by rw [← G.assoc _ _ _ i1 ii y1,G.mul_iv i1,G.one_l y y1]⟩
  ·rintro ⟨c,hc,rfl⟩
   obtain ⟨c1,c2⟩:=mem_mem.1 hc
   have h2:b (f (iv n f e i) (f i c))=true:=by rw [← G.assoc _ _ _ ii i1 c1,G.iv_mul i1,G.one_l c c1]; exact c2
   exact ⟨⟨G.cl _ _ i1 c1,pr2_iff.2 ⟨i,i1,i2,h2⟩⟩,h2⟩

/-- A set of one thing has one place. -/
theorem mem_one {p:Nat→Bool} (he:e < n) (h:∀ a,a < n→(p a=true↔a=e)):(mem n p).length=1:=by
 have:(mem n p).length=[e].length:=same_len (List.nodup_range.filter _) (by simp) fun x=>by
  rw [mem_mem,List.mem_singleton]
  constructor
  ·rintro ⟨h1,h2⟩; exact (h x h1).1 h2
  ·rintro rfl; exact ⟨he,(h x he).2 rfl⟩
 exact this
theorem one_mem {p:Nat→Bool} (he:e < n) (hp:p e=true) (h:(mem n p).length=1) {a:Nat} (ha:a < n) (hpa:p a=true):a=e:=by
 obtain ⟨x,hx⟩:=List.length_eq_one_iff.1 h
 have h1:a∈mem n p:=mem_mem.2 ⟨ha,hpa⟩
 have h2:e∈mem n p:=mem_mem.2 ⟨he,hp⟩
 rw [hx,List.mem_singleton] at h1 h2
 rw [h1,h2]
theorem mem_all {p:Nat→Bool} : (mem n p).length=n↔∀ a,a < n→p a=true:=by
 constructor
 ·intro h a ha
  have h1:(mem n p).length=(List.range n).length:=by rw [h,List.length_range]
  have h2:=List.length_filter_eq_length_iff.1 h1
  exact h2 a (List.mem_range.2 ha)
 ·intro h
  have:mem n p=List.range n:=List.filter_eq_self.2 fun a ha=>h a (List.mem_range.1 ha)
  rw [this,List.length_range]
end
end Go.Proofs.YtboadfahlflmhaaDoor

/-
  Plain law: classes of an equivalence, by their least things; conjugate things; THE CLASS EQUATION. Conditions: none.
-/
set_option linter.all false
namespace Go.Proofs.YtboadfahlflmhaaDoor
open Go.Pv

/-- Is a thing the least that it is like? -/
def lead (r:Nat→Nat→Bool) (a:Nat):Bool:=r a a && decide (∀ b,b < a→r a b=false)
theorem lead_iff {r:Nat→Nat→Bool} {a:Nat} : lead r a=true↔r a a=true∧∀ b,b < a→r a b=false:=by
 unfold lead; rw [Bool.and_eq_true,decide_eq_true_eq]

structure Eqv (n:Nat) (r:Nat→Nat→Bool):Prop where
 refl:∀ a,a < n→r a a=true
 symm:∀ a b,a < n→b < n→r a b=true→r b a=true
 trans:∀ a b c,a < n→b < n→c < n→r a b=true→r b c=true→r a c=true

/-- The least thing that a thing is like. -/
theorem Eqv.least {n:Nat} {r:Nat→Nat→Bool} (h:Eqv n r) {y:Nat} (hy:y < n):∃ x,x < n∧lead r x=true∧r x y=true:=by
 cases hf:fst' (r y) n with
 | none=>have:=fst_spec0 hf y hy; rw [h.refl y hy] at this; cases this
 | some x =>
  obtain ⟨h1,h2,h3⟩:=fst_spec hf
  refine ⟨x,h1,lead_iff.2 ⟨h.refl x h1,fun b hb=>?_⟩,h.symm y x hy h1 h2⟩
  cases hb2:r x b with
  | false=>rfl
  | true=>have:=h.trans y x b hy h1 (by omega) h2 hb2; rw [h3 b hb] at this; cases this
theorem Eqv.lead_eq {n:Nat} {r:Nat→Nat→Bool} (h:Eqv n r) {x y:Nat} (hx:x < n) (hy:y < n) (lx:lead r x=true) (ly:lead r y=true) (hr:r x y=true):x=y:=by
 rcases Nat.lt_trichotomy x y with h1 | h1 | h1
 ·have:=(lead_iff.1 ly).2 x h1; rw [h.symm x y hx hy hr] at this; cases this
 ·exact h1
 ·have:=(lead_iff.1 lx).2 y h1; rw [hr] at this; cases this
/-- Each thing is in one class. -/
theorem Eqv.one {n:Nat} {r:Nat→Nat→Bool} (h:Eqv n r) {y:Nat} (hy:y < n):((mem n (lead r)).filter fun x=>r x y).length=1:=by
 obtain ⟨x,x1,x2,x3⟩:=h.least hy
 have:((mem n (lead r)).filter fun x=>r x y).length=[x].length:=same_len ((List.nodup_range.filter _).filter _) (by simp) fun z=>by
  rw [List.mem_filter,mem_mem,List.mem_singleton]
  constructor
  ·rintro ⟨⟨z1,z2⟩,z3⟩
   exact h.lead_eq z1 x1 z2 x2 (h.trans z y x z1 hy x1 z3 (h.symm x y x1 hy x3))
  ·rintro rfl
   exact ⟨⟨x1,x2⟩,x3⟩
 exact this
/-- All classes together are all things. -/
theorem Eqv.sum {n:Nat} {r:Nat→Nat→Bool} (h:Eqv n r):((mem n (lead r)).map fun x=>(mem n (r x)).length).sum=n:=by
 have h1:=sum_filter (fun x y=>r x y) (mem n (lead r)) (List.range n)
 have h2:((List.range n).map fun y=>((mem n (lead r)).filter fun x=>r x y).length).sum=(List.range n).length * 1:=sum_const fun y hy=>h.one (List.mem_range.1 hy)
 rw [List.length_range,Nat.mul_one] at h2
 exact h1.trans h2

section
variable {n:Nat} {f:Nat→Nat→Nat} {e:Nat}
/-- Is y conjugate to x? -/
def cjb (n:Nat) (f:Nat→Nat→Nat) (e x y:Nat):Bool:=decide (∃ a,a < n∧f (f (iv n f e a) x) a=y)
theorem cjb_iff {x y:Nat} : cjb n f e x y=true↔∃ a,a < n∧f (f (iv n f e a) x) a=y:=by unfold cjb; exact decide_eq_true_iff
theorem Grp.cjr_mul (G:Grp n f e) {x a b:Nat} (hx:x < n) (ha:a < n) (hb:b < n):f (f (iv n f e b) (f (f (iv n f e a) x) a)) b=f (f (iv n f e (f a b)) x) (f a b):=by
 have ia:=G.iv_lt ha
 have ib:=G.iv_lt hb
 have h1:=G.cl _ _ ia hx
 rw [G.iv_prod ha hb,← G.assoc _ (f (iv n f e a) x) a ib h1 ha,G.assoc (f (iv n f e b) (f (iv n f e a) x)) a b (G.cl _ _ ib h1) ha hb,← G.assoc _ _ x ib ia hx]
theorem Grp.cjb_eqv (G:Grp n f e):Eqv n (cjb n f e) where
 refl a ha:=cjb_iff.2 ⟨e,G.el,by rw [G.iv_one,G.one_l a ha,G.one_r a ha]⟩
 symm a b ha hb h:=by
  obtain ⟨c,hc,rfl⟩:=cjb_iff.1 h
  refine cjb_iff.2 ⟨iv n f e c,G.iv_lt hc,?_⟩
  rw [G.cjr_mul ha hc (G.iv_lt hc),G.mul_iv hc,G.iv_one,G.one_l a ha,G.one_r a ha]
 trans a b c ha hb hc h1 h2:=by
  obtain ⟨x,hx,rfl⟩:=cjb_iff.1 h1
  obtain ⟨y,hy,rfl⟩:=cjb_iff.1 h2
  exact cjb_iff.2 ⟨f x y,G.cl _ _ hx hy,(G.cjr_mul ha hx hy).symm⟩
end
end Go.Proofs.YtboadfahlflmhaaDoor

/-
  Plain law: classes of conjugate things: how many; things that commute; groups of a prime's power. Conditions: none.
-/
set_option linter.all false
namespace Go.Proofs.YtboadfahlflmhaaDoor
open Go.Pv

section
variable {n:Nat} {f:Nat→Nat→Nat} {e:Nat}

/-- Classes of what is alike are the same. -/
theorem Eqv.row {r:Nat→Nat→Bool} (h:Eqv n r) {x y:Nat} (hx:x < n) (hy:y < n) (hr:r x y=true):mem n (r x)=mem n (r y):=by
 unfold mem
 refine List.filter_congr fun z hz=>?_
 have z1:=List.mem_range.1 hz
 rw [Bool.eq_iff_iff]
 exact ⟨fun h1=>h.trans y x z hy hx z1 (h.symm x y hx hy hr) h1,fun h1=>h.trans x y z hx hy z1 hr h1⟩

/-- Does a thing commute with all? -/
def zen (n:Nat) (f:Nat→Nat→Nat) (x:Nat):Bool:=decide (∀ b,b < n→f x b=f b x)
theorem zen_iff {x:Nat} : zen n f x=true↔∀ b,b < n→f x b=f b x:=by unfold zen; exact decide_eq_true_iff
theorem Grp.cls_zen (G:Grp n f e) {x:Nat} (hx:x < n):zen n f x=true↔∀ y,y < n→(cjb n f e x y=true↔y=x):=by
 rw [zen_iff]
 constructor
 ·intro h y hy
  constructor
  ·intro hc
   obtain ⟨a,ha,rfl⟩:=cjb_iff.1 hc
   rw [G.assoc _ x a (G.iv_lt ha) hx ha,h a ha,← G.assoc _ a x (G.iv_lt ha) ha hx,G.iv_mul ha,G.one_l x hx]
  ·rintro rfl; exact G.cjb_eqv.refl y hy
 ·intro h b hb
  have ib:=G.iv_lt hb
  have h1:=(h _ (G.cl _ _ (G.cl _ _ ib hx) hb)).1 (cjb_iff.2 ⟨b,hb,rfl⟩)
  have h2:f b (f (f (iv n f e b) x) b)=f b x:=by rw [h1]
  rwa [← G.assoc b _ b hb (G.cl _ _ ib hx) hb,← G.assoc b _ x hb ib hx,G.mul_iv hb,G.one_l x hx] at h2
theorem Grp.ones (G:Grp n f e):((mem n (lead (cjb n f e))).filter fun x=>decide ((mem n (cjb n f e x)).length=1)).length=(mem n (zen n f)).length:=by
 have E:=G.cjb_eqv
 refine same_len ((List.nodup_range.filter _).filter _) (List.nodup_range.filter _) fun x=>?_
 rw [List.mem_filter,mem_mem,mem_mem,decide_eq_true_eq]
 constructor
 ·rintro ⟨⟨x1,_⟩,h⟩
  refine ⟨x1,(G.cls_zen x1).2 fun y hy=>⟨fun hc=>one_mem x1 (E.refl x x1) h hy hc,?_⟩⟩
  rintro rfl; exact E.refl y hy
 ·rintro ⟨x1,h⟩
  have h1:=(G.cls_zen x1).1 h
  refine ⟨⟨x1,lead_iff.2 ⟨E.refl x x1,fun b hb=>?_⟩⟩,mem_one x1 h1⟩
  cases hv:cjb n f e x b with
  | false=>rfl
  | true=>have:=(h1 b (by omega)).1 hv; omega
/-- A number without whole parts, as the laws ask it. -/
def isPr (p:Nat):Prop:=2≤p∧p≤100∧∀ d,d < p→2≤d→¬ p % d=0
instance (p:Nat):Decidable (isPr p):=by unfold isPr; infer_instance
theorem isPr.div {p:Nat} (h:isPr p) {d:Nat} (hd:d ∣ p):d=1∨d=p:=by
 obtain ⟨h1,_,h3⟩:=h
 have hp:=Nat.pos_of_dvd_of_pos hd (by omega)
 have hl:=Nat.le_of_dvd (by omega) hd
 by_cases hd1:d=1
 ·exact .inl hd1
 ·by_cases hd2:d=p
  ·exact .inr hd2
  ·exact absurd (Nat.mod_eq_zero_of_dvd hd) (h3 d (by omega) (by omega))
theorem isPr.cop {p:Nat} (h:isPr p) {s:Nat} (hs:¬ p ∣ s):Nat.gcd p s=1:=by
 rcases h.div (Nat.gcd_dvd_left p s) with h1 | h1
 ·exact h1
 ·exact absurd (h1 ▸ Nat.gcd_dvd_right p s) hs
/-- What divides a power of p and is not 1 is a multiple of p. -/
theorem isPr.part {p:Nat} (h:isPr p) {k d:Nat} (hd:d ∣ p ^ k) (h1:d ≠ 1):p ∣ d:=by
 by_cases hp:p ∣ d
 ·exact hp
 ·exfalso
  have hc:Nat.Coprime d (p ^ k):=Nat.Coprime.pow_right _ (Nat.Coprime.symm (h.cop hp))
  have:d ∣ Nat.gcd d (p ^ k):=Nat.dvd_gcd (Nat.dvd_refl d) hd
  rw [hc] at this
  exact h1 (Nat.dvd_one.1 this)

end
end Go.Proofs.YtboadfahlflmhaaDoor

/-
  Conjugated subgroups: normalisers, cores, closures. Conditions: none.
-/
set_option linter.all false
namespace Go.Proofs.YtboadfahlflmhaaDoor
open Go.Pv

/-- x, conjugated by a. -/
def cjr (n:Nat) (f:Nat→Nat→Nat) (e x a:Nat):Nat:=f (f (iv n f e a) x) a
/-- a^-1 b^-1 a b -/
def cmt (n:Nat) (f:Nat→Nat→Nat) (e a b:Nat):Nat:=f (f (iv n f e a) (iv n f e b)) (f a b)
/-- A set, conjugated. -/
def shf (n:Nat) (f:Nat→Nat→Nat) (e:Nat) (p:Nat→Bool) (a y:Nat):Bool:=decide (∃ x,x < n∧p x=true∧cjr n f e x a=y)
/-- What lets a set stay. -/
def nzr (n:Nat) (f:Nat→Nat→Nat) (e:Nat) (p:Nat→Bool) (a:Nat):Bool:=decide (∀ y,y < n→shf n f e p a y=p y)
/-- The set stays, whatever it is conjugated by. -/
def Nml (n:Nat) (f:Nat→Nat→Nat) (e:Nat) (p:Nat→Bool):Prop:=∀ a,a < n→∀ x,x < n→p x=true→p (cjr n f e x a)=true
def cup (n:Nat) (f:Nat→Nat→Nat) (e:Nat) (p:Nat→Bool) (y:Nat):Bool:=decide (∃ x,x < n∧p x=true∧∃ a,a < n∧cjr n f e x a=y)

section
variable {n:Nat} {f:Nat→Nat→Nat} {e:Nat}
theorem shf_iff {p:Nat→Bool} {a y:Nat} : shf n f e p a y=true↔∃ x,x < n∧p x=true∧cjr n f e x a=y:=by unfold shf; exact decide_eq_true_iff
theorem nzr_iff {p:Nat→Bool} {a:Nat} : nzr n f e p a=true↔∀ y,y < n→shf n f e p a y=p y:=by unfold nzr; exact decide_eq_true_iff
theorem cup_iff {p:Nat→Bool} {y:Nat} : cup n f e p y=true↔∃ x a,x < n∧a < n∧p x=true∧cjr n f e x a=y:=by
 unfold cup; rw [decide_eq_true_iff]
 exact ⟨fun ⟨x,h1,h2,a,h3,h4⟩=>⟨x,a,h1,h3,h2,h4⟩,fun ⟨x,a,h1,h3,h2,h4⟩=>⟨x,h1,h2,a,h3,h4⟩⟩

theorem Grp.cjr_lt (G:Grp n f e) {x a:Nat} (hx:x < n) (ha:a < n):cjr n f e x a < n:=G.cl _ _ (G.cl _ _ (G.iv_lt ha) hx) ha
theorem Grp.cjr_cjr (G:Grp n f e) {x a b:Nat} (hx:x < n) (ha:a < n) (hb:b < n):cjr n f e (cjr n f e x a) b=cjr n f e x (f a b):=G.cjr_mul hx ha hb
theorem Grp.cjr_e (G:Grp n f e) {x:Nat} (hx:x < n):cjr n f e x e=x:=by
 unfold cjr; rw [G.iv_one,G.one_l x hx,G.one_r x hx]
theorem Grp.cjr_iv (G:Grp n f e) {x a:Nat} (hx:x < n) (ha:a < n):cjr n f e (cjr n f e x a) (iv n f e a)=x:=by
 rw [G.cjr_cjr hx ha (G.iv_lt ha),G.mul_iv ha,G.cjr_e hx]
theorem Grp.cjr_vi (G:Grp n f e) {x a:Nat} (hx:x < n) (ha:a < n):cjr n f e (cjr n f e x (iv n f e a)) a=x:=by
 rw [G.cjr_cjr hx (G.iv_lt ha) ha,G.iv_mul ha,G.cjr_e hx]
theorem Grp.cjr_hom (G:Grp n f e) {x y a:Nat} (hx:x < n) (hy:y < n) (ha:a < n):cjr n f e (f x y) a=f (cjr n f e x a) (cjr n f e y a):=by
 have ia:=G.iv_lt ha
 have h1:=G.cl _ _ ia hx
 have h2:=G.cl _ _ ia hy
 have h3:=G.cl _ _ h2 ha
 unfold cjr
 rw [G.assoc (f (iv n f e a) x) a _ h1 ha h3,G.assoc (iv n f e a) y a ia hy ha,← G.assoc a (iv n f e a) (f y a) ha ia (G.cl _ _ hy ha),G.mul_iv ha,G.one_l _ (G.cl _ _ hy ha),← G.assoc _ y a h1 hy ha,G.assoc _ x y ia hx hy]
theorem Grp.cjr_one (G:Grp n f e) {a:Nat} (ha:a < n):cjr n f e e a=e:=by
 unfold cjr; rw [G.one_r _ (G.iv_lt ha),G.iv_mul ha]
theorem Grp.iv_cjr (G:Grp n f e) {x a:Nat} (hx:x < n) (ha:a < n):iv n f e (cjr n f e x a)=cjr n f e (iv n f e x) a:=
 (G.iv_unique (G.cjr_lt hx ha) (G.cjr_lt (G.iv_lt hx) ha) (.inl (by rw [← G.cjr_hom hx (G.iv_lt hx) ha,G.mul_iv hx,G.cjr_one ha]))).symm
theorem Grp.cmt_lt (G:Grp n f e) {a b:Nat} (ha:a < n) (hb:b < n):cmt n f e a b < n:=G.cl _ _ (G.cl _ _ (G.iv_lt ha) (G.iv_lt hb)) (G.cl _ _ ha hb)
theorem Grp.cmt_cjr (G:Grp n f e) {x a:Nat} (hx:x < n) (ha:a < n):cmt n f e x a=f (iv n f e x) (cjr n f e x a):=by
 have ia:=G.iv_lt ha
 unfold cmt cjr
 rw [G.assoc _ _ _ (G.iv_lt hx) ia (G.cl _ _ hx ha),G.assoc _ x a ia hx ha]
theorem Grp.cjr_cmt (G:Grp n f e) {x y a:Nat} (hx:x < n) (hy:y < n) (ha:a < n):cjr n f e (cmt n f e x y) a=cmt n f e (cjr n f e x a) (cjr n f e y a):=by
 have ix:=G.iv_lt hx
 have iy:=G.iv_lt hy
 unfold cmt
 rw [G.cjr_hom (G.cl _ _ ix iy) (G.cl _ _ hx hy) ha,G.cjr_hom ix iy ha,G.cjr_hom hx hy ha,G.iv_cjr hx ha,G.iv_cjr hy ha]

theorem Grp.shf_back (G:Grp n f e) {p:Nat→Bool} {a y:Nat} (ha:a < n) (hy:y < n):shf n f e p a y=p (cjr n f e y (iv n f e a)):=by
 rw [Bool.eq_iff_iff,shf_iff]
 constructor
 ·rintro ⟨x,x1,x2,rfl⟩; rwa [G.cjr_iv x1 ha]
 ·intro h; exact ⟨_,G.cjr_lt hy (G.iv_lt ha),h,G.cjr_vi hy ha⟩
theorem Grp.nml_iff (G:Grp n f e) {p:Nat→Bool} : Nml n f e p↔∀ a,a < n→nzr n f e p a=true:=by
 constructor
 ·intro h a ha
  rw [nzr_iff]
  intro y hy
  rw [G.shf_back ha hy,Bool.eq_iff_iff]
  refine ⟨fun h1=>?_,fun h1=>h _ (G.iv_lt ha) y hy h1⟩
  have:=h a ha _ (G.cjr_lt hy (G.iv_lt ha)) h1
  rwa [G.cjr_vi hy ha] at this
 ·intro h a ha x hx hp
  have h1:=nzr_iff.1 (h a ha) _ (G.cjr_lt hx ha)
  rw [G.shf_back ha (G.cjr_lt hx ha),G.cjr_iv hx ha,hp] at h1
  exact h1.symm
end
end Go.Proofs.YtboadfahlflmhaaDoor

/-
  Cosets: right, left and double; how many, how great. Conditions: none.
-/
set_option linter.all false
namespace Go.Proofs.YtboadfahlflmhaaDoor
open Go.Pv

/-- The one alone. -/
def onp (e x:Nat):Bool:=decide (x=e)
/-- Is b = x a y for some x of p, y of q? -/
def dco (n:Nat) (f:Nat→Nat→Nat) (p q:Nat→Bool) (a b:Nat):Bool:=decide (∃ x,x < n∧p x=true∧∃ y,y < n∧q y=true∧f (f x a) y=b)

theorem mem_bij {n:Nat} {P Q:Nat→Bool} (g:Nat→Nat) (h1:∀ x,x < n→P x=true→g x < n∧Q (g x)=true) (hi:∀ x y,x < n→y < n→P x=true→P y=true→g x=g y→x=y) (h2:∀ y,y < n→Q y=true→∃ x,x < n∧P x=true∧g x=y):(mem n P).length=(mem n Q).length:=by
 rw [← List.length_map (f:=g) («as»:=mem n P)]
 refine same_len (nodup_map (List.nodup_range.filter _) fun x hx y hy he=>hi x y (mem_mem.1 hx).1 (mem_mem.1 hy).1 (mem_mem.1 hx).2 (mem_mem.1 hy).2 he) (List.nodup_range.filter _) fun y=>?_
 rw [List.mem_map,mem_mem]
 constructor
 ·rintro ⟨x,hx,rfl⟩
  exact h1 x (mem_mem.1 hx).1 (mem_mem.1 hx).2
 ·rintro ⟨y1,y2⟩
  obtain ⟨x,x1,x2,x3⟩:=h2 y y1 y2
  exact ⟨x,mem_mem.2 ⟨x1,x2⟩,x3⟩
theorem mem_congr {n:Nat} {P Q:Nat→Bool} (h:∀ a,a < n→P a=Q a):mem n P=mem n Q:=List.filter_congr fun a ha=>h a (List.mem_range.1 ha)

section
variable {n:Nat} {f:Nat→Nat→Nat} {e:Nat} {p q:Nat→Bool}
theorem dco_iff {a b:Nat} : dco n f p q a b=true↔∃ x y,x < n∧y < n∧p x=true∧q y=true∧f (f x a) y=b:=by
 unfold dco; rw [decide_eq_true_iff]
 exact ⟨fun ⟨x,h1,h2,y,h3,h4,h5⟩=>⟨x,y,h1,h3,h2,h4,h5⟩,fun ⟨x,y,h1,h3,h2,h4,h5⟩=>⟨x,h1,h2,y,h3,h4,h5⟩⟩
theorem onp_iff {x:Nat} : onp e x=true↔x=e:=by unfold onp; exact decide_eq_true_iff
theorem Grp.onp_sub (G:Grp n f e):Sub n f e (onp e):=
 sub_of G (onp_iff.2 rfl) fun a b ha hb h1 h2=>by
  rw [onp_iff] at *; subst h1; subst h2; exact G.one_l _ ha

theorem Grp.dco_eqv (G:Grp n f e) (hp:Sub n f e p) (hq:Sub n f e q):Eqv n (dco n f p q) where
 refl a ha:=dco_iff.2 ⟨e,e,G.el,G.el,hp.one,hq.one,by rw [G.one_l a ha,G.one_r a ha]⟩
 symm a b ha hb h:=by
  obtain ⟨x,y,x1,y1,x2,y2,rfl⟩:=dco_iff.1 h
  have ix:=G.iv_lt x1
  have iy:=G.iv_lt y1
  have hxa:=G.cl _ _ x1 ha
  refine dco_iff.2 ⟨iv n f e x,iv n f e y,ix,iy,hp.inv x x1 x2,hq.inv y y1 y2,?_⟩
  rw [← G.assoc _ _ y ix hxa y1,← G.assoc _ x a ix x1 ha,G.iv_mul x1,G.one_l a ha,G.assoc a y _ ha y1 iy,G.mul_iv y1,G.one_r a ha]
 trans a b c ha hb hc h1 h2:=by
  obtain ⟨x,y,x1,y1,x2,y2,rfl⟩:=dco_iff.1 h1
  obtain ⟨u,v,u1,v1,u2,v2,rfl⟩:=dco_iff.1 h2
  have hxa:=G.cl _ _ x1 ha
  refine dco_iff.2 ⟨f u x,f y v,G.cl _ _ u1 x1,G.cl _ _ y1 v1,hp.mul _ _ u1 x1 u2 x2,hq.mul _ _ y1 v1 y2 v2,?_⟩
  rw [G.assoc u x a u1 x1 ha,← G.assoc _ y v (G.cl _ _ u1 hxa) y1 v1,G.assoc u (f x a) y u1 hxa y1]
/-- Right and left ones. -/
theorem Grp.rco_iff (G:Grp n f e) {a b:Nat} (ha:a < n) (hb:b < n):dco n f p (onp e) a b=p (f b (iv n f e a)):=by
 rw [Bool.eq_iff_iff,dco_iff]
 constructor
 ·rintro ⟨x,y,x1,y1,x2,y2,rfl⟩
  rw [onp_iff.1 y2,G.one_r _ (G.cl _ _ x1 ha),G.assoc x a _ x1 ha (G.iv_lt ha),G.mul_iv ha,G.one_r x x1]; exact x2
 ·intro h
  refine ⟨f b (iv n f e a),e,G.cl _ _ hb (G.iv_lt ha),G.el,h,onp_iff.2 rfl,?_⟩
  rw [G.assoc b _ a hb (G.iv_lt ha) ha,G.iv_mul ha,G.one_r b hb,G.one_r b hb]
/-- As many things in each. -/
theorem Grp.rco_len (G:Grp n f e) {a:Nat} (ha:a < n):(mem n (dco n f p (onp e) a)).length=(mem n p).length:=by
 refine (mem_bij (fun x=>f x a) (fun x hx h=>⟨G.cl _ _ hx ha,dco_iff.2 ⟨x,e,hx,G.el,h,onp_iff.2 rfl,G.one_r _ (G.cl _ _ hx ha)⟩⟩) (fun x y hx hy _ _ h=>G.cancel_r ha hx hy h) fun y hy h=>?_).symm
 obtain ⟨x,z,x1,z1,x2,z2,rfl⟩:=dco_iff.1 h
 exact ⟨x,x1,x2,by rw [onp_iff.1 z2,G.one_r _ (G.cl _ _ x1 ha)]⟩
theorem sum_same {α:Type} {g:α→Nat} {k:Nat} : ∀ {l:List α},(∀ x∈l,g x=k)→(l.map g).sum=l.length * k
 | [],_=>by simp
 | a :: l,h=>by
  rw [List.map_cons,List.sum_cons,sum_same (l:=l) fun x hx=>h x (by simp [hx]),h a (by simp),List.length_cons,Nat.add_mul,Nat.one_mul,Nat.add_comm]
theorem Grp.rco_num (G:Grp n f e) (hp:Sub n f e p):(mem n (lead (dco n f p (onp e)))).length * (mem n p).length=n:=by
 have h:=(G.dco_eqv hp G.onp_sub).sum
 rwa [sum_same fun x hx=>G.rco_len (mem_mem.1 hx).1] at h
theorem Sub.pos (hp:Sub n f e p) (he:e < n):0 < (mem n p).length:=List.length_pos_of_mem (mem_mem.2 ⟨he,hp.one⟩)
/-- A subgroup, conjugated. -/
theorem Grp.shf_sub (G:Grp n f e) (hp:Sub n f e p) {a:Nat} (ha:a < n):Sub n f e (shf n f e p a):=
 sub_of G (shf_iff.2 ⟨e,G.el,hp.one,G.cjr_one ha⟩) fun x y hx hy h1 h2=>by
  obtain ⟨u,u1,u2,rfl⟩:=shf_iff.1 h1
  obtain ⟨v,v1,v2,rfl⟩:=shf_iff.1 h2
  exact shf_iff.2 ⟨f u v,G.cl _ _ u1 v1,hp.mul _ _ u1 v1 u2 v2,G.cjr_hom u1 v1 ha⟩
theorem Grp.shf_len (G:Grp n f e) {a:Nat} (ha:a < n):(mem n (shf n f e p a)).length=(mem n p).length:=by
 refine (mem_bij (fun x=>cjr n f e x a) (fun x hx h=>⟨G.cjr_lt hx ha,shf_iff.2 ⟨x,hx,h,rfl⟩⟩) (fun x y hx hy _ _ h=>?_) fun y hy h=>?_).symm
 ·have:=congrArg (fun z=>cjr n f e z (iv n f e a)) h
  simp only [G.cjr_iv hx ha,G.cjr_iv hy ha] at this
  exact this
 ·obtain ⟨x,x1,x2,x3⟩:=shf_iff.1 h
  exact ⟨x,x1,x2,x3⟩
/-- FROBENIUS: how many things a double coset has. -/
theorem Grp.dco_count (G:Grp n f e) (hp:Sub n f e p) (hq:Sub n f e q) {a:Nat} (ha:a < n):(mem n (dco n f p q a)).length * (mem n fun x=>shf n f e p a x && q x).length=(mem n p).length * (mem n q).length:=by
 have h:=G.prod_count (G.shf_sub hp ha) hq
 rw [G.shf_len ha] at h
 rw [← h]
 congr 1
 have ia:=G.iv_lt ha
 refine mem_bij (fun x=>f (iv n f e a) x) (fun x hx h=>⟨G.cl _ _ ia hx,?_⟩) (fun x y hx hy _ _ h=>G.cancel_l ia hx hy h) fun y hy h=>?_
 ·obtain ⟨u,v,u1,v1,u2,v2,rfl⟩:=dco_iff.1 h
  have hua:=G.cl _ _ u1 ha
  have hc:=G.cjr_lt u1 ha
  refine pr2_iff.2 ⟨cjr n f e u a,hc,shf_iff.2 ⟨u,u1,u2,rfl⟩,?_⟩
  have:f (iv n f e a) (f (f u a) v)=f (cjr n f e u a) v:=by
   unfold cjr
   rw [← G.assoc _ (f u a) v ia hua v1,← G.assoc _ u a ia u1 ha]
  rw [this,← G.assoc _ _ v (G.iv_lt hc) hc v1,G.iv_mul hc,G.one_l v v1]; exact v2
 ·obtain ⟨i,i1,i2,i3⟩:=pr2_iff.1 h
  obtain ⟨u,u1,u2,rfl⟩:=shf_iff.1 i2
  refine ⟨f a y,G.cl _ _ ha hy,dco_iff.2 ⟨u,_,u1,G.cl _ _ (G.iv_lt i1) hy,u2,i3,?_⟩,?_⟩
  ·have hua:=G.cl _ _ u1 ha
   have:f u a=f a (cjr n f e u a):=by
    unfold cjr
    rw [← G.assoc a _ a ha (G.cl _ _ ia u1) ha,← G.assoc a _ u ha ia u1,G.mul_iv ha,G.one_l u u1]
   rw [this,G.assoc a _ _ ha i1 (G.cl _ _ (G.iv_lt i1) hy),← G.assoc _ _ y i1 (G.iv_lt i1) hy,G.mul_iv i1,G.one_l y hy]
  ·show f (iv n f e a) (f a y)=y
   rw [← G.assoc _ a y ia ha hy,G.iv_mul ha,G.one_l y hy]

/-! ### Towers -/

/-- Classes in a set that has whole classes. -/
theorem Eqv.part {r:Nat→Nat→Bool} (h:Eqv n r) {K:Nat→Bool} (hK:∀ x y,x < n→y < n→r x y=true→K x=true→K y=true):((mem n fun x=>lead r x && K x).map fun x=>(mem n (r x)).length).sum=(mem n K).length:=by
 have h1:=sum_filter (fun x y=>r x y) (mem n fun x=>lead r x && K x) (List.range n)
 have h2:∀ y,y∈List.range n→((mem n fun x=>lead r x && K x).filter fun x=>r x y).length=if K y=true then 1 else 0:=fun y hy=>by
  have y1:=List.mem_range.1 hy
  by_cases hk:K y=true
  ·rw [if_pos hk,← h.one y1]
   congr 1
   unfold mem
   rw [List.filter_filter,List.filter_filter]
   refine List.filter_congr fun x hx=>?_
   have x1:=List.mem_range.1 hx
   cases hr:r x y with
   | false=>simp
   | true=>rw [hK y x y1 x1 (h.symm x y x1 y1 hr) hk]; simp
  ·rw [if_neg hk,List.length_eq_zero_iff,List.filter_eq_nil_iff]
   intro x hx hr
   obtain ⟨x1,x2⟩:=mem_mem.1 hx
   rw [Bool.and_eq_true] at x2
   exact hk (hK x y x1 y1 hr x2.2)
 have h3:((List.range n).map fun y=>((mem n fun x=>lead r x && K x).filter fun x=>r x y).length).sum=(mem n K).length:=by
  rw [List.map_congr_left h2]
  unfold mem
  generalize List.range n=L
  induction L with
  | nil=>rfl
  | cons a L ih=>rw [List.map_cons,List.sum_cons,ih,List.filter_cons]; by_cases hk:K a=true<;>simp [hk,Nat.add_comm]
 exact h1.trans h3
/-! ### Sides -/

end
end Go.Proofs.YtboadfahlflmhaaDoor

/-
  Direct products of subgroups. Conditions: none.
-/
set_option linter.all false
namespace Go.Proofs.YtboadfahlflmhaaDoor

section
variable {n e:Nat} {f:Nat→Nat→Nat} {p q:Nat→Bool}
/-- All things of one commute with all of the other. -/
def Cmm (n:Nat) (f:Nat→Nat→Nat) (p q:Nat→Bool):Prop:=∀ a b,a < n→b < n→p a=true→q b=true→f a b=f b a
theorem Grp.pr2_mk (G:Grp n f e) {a b:Nat} (ha:a < n) (hb:b < n) (h1:p a=true) (h2:q b=true):pr2 n f e p q (f a b)=true:=
 pr2_iff.2 ⟨a,ha,h1,by rwa [← G.assoc _ _ _ (G.iv_lt ha) ha hb,G.iv_mul ha,G.one_l b hb]⟩
theorem Grp.pr2_un (G:Grp n f e) {x:Nat} (hx:x < n) (h:pr2 n f e p q x=true):∃ a b,a < n∧b < n∧p a=true∧q b=true∧x=f a b:=by
 obtain ⟨a,a1,a2,a3⟩:=pr2_iff.1 h
 refine ⟨a,_,a1,G.cl _ _ (G.iv_lt a1) hx,a2,a3,?_⟩
 rw [← G.assoc _ _ _ a1 (G.iv_lt a1) hx,G.mul_iv a1,G.one_l x hx]
theorem Grp.meet_len (G:Grp n f e) (hp:Sub n f e p) (hq:Sub n f e q):(mem n fun x=>p x && q x).length=1↔∀ a,a < n→p a=true→q a=true→a=e:=by
 have he:(fun x=>p x && q x) e=true:=by simp [hp.one,hq.one]
 constructor
 ·intro h a ha h1 h2
  exact one_mem G.el he h ha (by simp [h1,h2])
 ·intro h
  refine mem_one G.el fun a ha=>⟨fun h1=>?_,fun h1=>by rw [h1]; exact he⟩
  rw [Bool.and_eq_true] at h1
  exact h a ha h1.1 h1.2
theorem Grp.gen_none (G:Grp n f e) {p:Nat→Bool} (h:∀ a,a < n→p a=false) {a:Nat} (ha:a < n):onp e a=true↔Gen n f e p a:=by
 rw [onp_iff]
 constructor
 ·rintro rfl; exact .one
 ·intro h1
  exact onp_iff.1 (Gen.sub G G.onp_sub (fun b hb h2=>by rw [h b hb] at h2; cases h2) h1)
end
end Go.Proofs.YtboadfahlflmhaaDoor

/-
  The types that the walk asks, a row each, checked by the kernel against the program. Conditions: none; a library text, written by a program of this repo.
-/
namespace Go.Proofs.YtboadfahlflmhaaDoor
open Go.Pv

def tab:TypeId→Option TI
 | 1=>some ⟨.other,1,8,[.nilFunc],false⟩
 | 2=>some ⟨.int .i64,1,8,[.int .i64 0],false⟩
 | 3=>some ⟨.int .i64,1,8,[.int .i64 0],false⟩
 | 4=>some ⟨.bool,1,1,[.bool false],false⟩
 | 5=>some ⟨.int .u8,1,1,[.int .u8 0],false⟩
 | 9=>some ⟨.str,1,16,[.string ⟨#[]⟩],false⟩
 | 12=>some ⟨.int .u64,1,8,[.int .u64 0],false⟩
 | 21=>some ⟨.int .i32,1,4,[.int .i32 0],false⟩
 | 22=>some ⟨.slice 3,1,24,[.slice none 0 0],false⟩
 | 24=>some ⟨.struct [(0,3,1),(1,22,1)],2,32,[.int .i64 0,.slice none 0 0],false⟩
 | 25=>some ⟨.slice 22,1,24,[.slice none 0 0],false⟩
 | 27=>some ⟨.struct [(0,3,1),(1,3,1)],2,16,[.int .i64 0,.int .i64 0],true⟩
 | 37=>some ⟨.other,1,8,[.nilFunc],false⟩
 | 48=>some ⟨.other,1,8,[.nilFunc],false⟩
 | 51=>some ⟨.other,1,8,[.nilFunc],false⟩
 | 53=>some ⟨.other,1,8,[.nilFunc],false⟩
 | 54=>some ⟨.other,1,8,[.nilFunc],false⟩
 | 59=>some ⟨.other,1,8,[.nilFunc],false⟩
 | 81=>some ⟨.slice 4,1,24,[.slice none 0 0],false⟩
 | 92=>some ⟨.map 3 3 (some (.int .i64 0)),1,8,[.map none],false⟩
 | 93=>some ⟨.int .u64,1,8,[.int .u64 0],false⟩
 | 94=>some ⟨.int .u64,1,8,[.int .u64 0],false⟩
 | 99=>some ⟨.slice 94,1,24,[.slice none 0 0],false⟩
 | 101=>some ⟨.slice 24,1,24,[.slice none 0 0],false⟩
 | 102=>some ⟨.other,1,8,[.nilFunc],false⟩
 | 107=>some ⟨.int .u64,1,8,[.int .u64 0],false⟩
 | 113=>some ⟨.other,1,8,[.nilFunc],false⟩
 | 115=>some ⟨.map 94 4 (some (.bool false)),1,8,[.map none],false⟩
 | 119=>some ⟨.int .i64,1,8,[.int .i64 0],false⟩
 | 127=>some ⟨.int .u32,1,4,[.int .u32 0],false⟩
 | 135=>some ⟨.array 64 5,64,64,[.int .u8 0,.int .u8 0,.int .u8 0,.int .u8 0,.int .u8 0,.int .u8 0,.int .u8 0,.int .u8 0,.int .u8 0,.int .u8 0,.int .u8 0,.int .u8 0,.int .u8 0,.int .u8 0,.int .u8 0,.int .u8 0,.int .u8 0,.int .u8 0,.int .u8 0,.int .u8 0,.int .u8 0,.int .u8 0,.int .u8 0,.int .u8 0,.int .u8 0,.int .u8 0,.int .u8 0,.int .u8 0,.int .u8 0,.int .u8 0,.int .u8 0,.int .u8 0,.int .u8 0,.int .u8 0,.int .u8 0,.int .u8 0,.int .u8 0,.int .u8 0,.int .u8 0,.int .u8 0,.int .u8 0,.int .u8 0,.int .u8 0,.int .u8 0,.int .u8 0,.int .u8 0,.int .u8 0,.int .u8 0,.int .u8 0,.int .u8 0,.int .u8 0,.int .u8 0,.int .u8 0,.int .u8 0,.int .u8 0,.int .u8 0,.int .u8 0,.int .u8 0,.int .u8 0,.int .u8 0,.int .u8 0,.int .u8 0,.int .u8 0,.int .u8 0],false⟩
 | 137=>some ⟨.int .u64,1,8,[.int .u64 0],false⟩
 | _=>none

theorem tab_1:tiOf Tryd.prog 1=some ⟨.other,1,8,[.nilFunc],false⟩:=by kernel_rfl
theorem tab_2:tiOf Tryd.prog 2=some ⟨.int .i64,1,8,[.int .i64 0],false⟩:=by kernel_rfl
theorem tab_3:tiOf Tryd.prog 3=some ⟨.int .i64,1,8,[.int .i64 0],false⟩:=by kernel_rfl
theorem tab_4:tiOf Tryd.prog 4=some ⟨.bool,1,1,[.bool false],false⟩:=by kernel_rfl
theorem tab_5:tiOf Tryd.prog 5=some ⟨.int .u8,1,1,[.int .u8 0],false⟩:=by kernel_rfl
theorem tab_9:tiOf Tryd.prog 9=some ⟨.str,1,16,[.string ⟨#[]⟩],false⟩:=by kernel_rfl
theorem tab_12:tiOf Tryd.prog 12=some ⟨.int .u64,1,8,[.int .u64 0],false⟩:=by kernel_rfl
theorem tab_21:tiOf Tryd.prog 21=some ⟨.int .i32,1,4,[.int .i32 0],false⟩:=by kernel_rfl
theorem tab_22:tiOf Tryd.prog 22=some ⟨.slice 3,1,24,[.slice none 0 0],false⟩:=by kernel_rfl
theorem tab_24:tiOf Tryd.prog 24=some ⟨.struct [(0,3,1),(1,22,1)],2,32,[.int .i64 0,.slice none 0 0],false⟩:=by kernel_rfl
theorem tab_25:tiOf Tryd.prog 25=some ⟨.slice 22,1,24,[.slice none 0 0],false⟩:=by kernel_rfl
theorem tab_27:tiOf Tryd.prog 27=some ⟨.struct [(0,3,1),(1,3,1)],2,16,[.int .i64 0,.int .i64 0],true⟩:=by kernel_rfl
theorem tab_37:tiOf Tryd.prog 37=some ⟨.other,1,8,[.nilFunc],false⟩:=by kernel_rfl
theorem tab_48:tiOf Tryd.prog 48=some ⟨.other,1,8,[.nilFunc],false⟩:=by kernel_rfl
theorem tab_51:tiOf Tryd.prog 51=some ⟨.other,1,8,[.nilFunc],false⟩:=by kernel_rfl
theorem tab_53:tiOf Tryd.prog 53=some ⟨.other,1,8,[.nilFunc],false⟩:=by kernel_rfl
theorem tab_54:tiOf Tryd.prog 54=some ⟨.other,1,8,[.nilFunc],false⟩:=by kernel_rfl
theorem tab_59:tiOf Tryd.prog 59=some ⟨.other,1,8,[.nilFunc],false⟩:=by kernel_rfl
theorem tab_81:tiOf Tryd.prog 81=some ⟨.slice 4,1,24,[.slice none 0 0],false⟩:=by kernel_rfl
theorem tab_92:tiOf Tryd.prog 92=some ⟨.map 3 3 (some (.int .i64 0)),1,8,[.map none],false⟩:=by kernel_rfl
theorem tab_93:tiOf Tryd.prog 93=some ⟨.int .u64,1,8,[.int .u64 0],false⟩:=by kernel_rfl
theorem tab_94:tiOf Tryd.prog 94=some ⟨.int .u64,1,8,[.int .u64 0],false⟩:=by kernel_rfl
theorem tab_99:tiOf Tryd.prog 99=some ⟨.slice 94,1,24,[.slice none 0 0],false⟩:=by kernel_rfl
theorem tab_101:tiOf Tryd.prog 101=some ⟨.slice 24,1,24,[.slice none 0 0],false⟩:=by kernel_rfl
theorem tab_102:tiOf Tryd.prog 102=some ⟨.other,1,8,[.nilFunc],false⟩:=by kernel_rfl
theorem tab_107:tiOf Tryd.prog 107=some ⟨.int .u64,1,8,[.int .u64 0],false⟩:=by kernel_rfl
theorem tab_113:tiOf Tryd.prog 113=some ⟨.other,1,8,[.nilFunc],false⟩:=by kernel_rfl
theorem tab_115:tiOf Tryd.prog 115=some ⟨.map 94 4 (some (.bool false)),1,8,[.map none],false⟩:=by kernel_rfl
theorem tab_119:tiOf Tryd.prog 119=some ⟨.int .i64,1,8,[.int .i64 0],false⟩:=by kernel_rfl
theorem tab_127:tiOf Tryd.prog 127=some ⟨.int .u32,1,4,[.int .u32 0],false⟩:=by kernel_rfl
theorem tab_135:tiOf Tryd.prog 135=some ⟨.array 64 5,64,64,[.int .u8 0,.int .u8 0,.int .u8 0,.int .u8 0,.int .u8 0,.int .u8 0,.int .u8 0,.int .u8 0,.int .u8 0,.int .u8 0,.int .u8 0,.int .u8 0,.int .u8 0,.int .u8 0,.int .u8 0,.int .u8 0,.int .u8 0,.int .u8 0,.int .u8 0,.int .u8 0,.int .u8 0,.int .u8 0,.int .u8 0,.int .u8 0,.int .u8 0,.int .u8 0,.int .u8 0,.int .u8 0,.int .u8 0,.int .u8 0,.int .u8 0,.int .u8 0,.int .u8 0,.int .u8 0,.int .u8 0,.int .u8 0,.int .u8 0,.int .u8 0,.int .u8 0,.int .u8 0,.int .u8 0,.int .u8 0,.int .u8 0,.int .u8 0,.int .u8 0,.int .u8 0,.int .u8 0,.int .u8 0,.int .u8 0,.int .u8 0,.int .u8 0,.int .u8 0,.int .u8 0,.int .u8 0,.int .u8 0,.int .u8 0,.int .u8 0,.int .u8 0,.int .u8 0,.int .u8 0,.int .u8 0,.int .u8 0,.int .u8 0,.int .u8 0],false⟩:=by kernel_rfl
theorem tab_137:tiOf Tryd.prog 137=some ⟨.int .u64,1,8,[.int .u64 0],false⟩:=by kernel_rfl

theorem tab_ok:∀ t ti,tab t=some ti→tiOf Tryd.prog t=some ti:=by
 intro t ti h
 unfold tab at h
 split at h
 ·cases h; exact tab_1
 ·cases h; exact tab_2
 ·cases h; exact tab_3
 ·cases h; exact tab_4
 ·cases h; exact tab_5
 ·cases h; exact tab_9
 ·cases h; exact tab_12
 ·cases h; exact tab_21
 ·cases h; exact tab_22
 ·cases h; exact tab_24
 ·cases h; exact tab_25
 ·cases h; exact tab_27
 ·cases h; exact tab_37
 ·cases h; exact tab_48
 ·cases h; exact tab_51
 ·cases h; exact tab_53
 ·cases h; exact tab_54
 ·cases h; exact tab_59
 ·cases h; exact tab_81
 ·cases h; exact tab_92
 ·cases h; exact tab_93
 ·cases h; exact tab_94
 ·cases h; exact tab_99
 ·cases h; exact tab_101
 ·cases h; exact tab_102
 ·cases h; exact tab_107
 ·cases h; exact tab_113
 ·cases h; exact tab_115
 ·cases h; exact tab_119
 ·cases h; exact tab_127
 ·cases h; exact tab_135
 ·cases h; exact tab_137
 ·cases h

theorem mixed:Tryd.prog.follows .mixedOrders=true:=by kernel_rfl

end Go.Proofs.YtboadfahlflmhaaDoor

/-
  Walks: the document's words of groups: product, one, inverse. Conditions: none.
-/
set_option linter.all false
namespace Go.Proofs.YtboadfahlflmhaaDoor
open Go.Pv

/-- A fault. -/
def fl (p:Int × Int):PV:=.agg [.int .i64 p.1,.int .i64 p.2]

/-- The product, out of the table. -/
def op (m:List Int) (n a b:Nat):Nat:=(m.getD (a * n + b) 0).toNat

structure Tab (n:Nat) (m:List Int):Prop where
 pos:1≤n
 big:n≤60
 len:m.length=n * n
 rng:∀ i,i < n * n→0≤m.getD i 0∧m.getD i 0 < n

theorem at_lt {n a b:Nat} (ha:a < n) (hb:b < n):a * n + b < n * n:=by
 have:(a + 1) * n≤n * n:=Nat.mul_le_mul_right _ ha
 rw [Nat.add_mul,Nat.one_mul] at this
 omega
theorem sq_le {n:Nat} (h:n≤60):n * n≤3600:=Nat.mul_le_mul h h

theorem Tab.val {n:Nat} {m:List Int} (T:Tab n m) {a b:Nat} (ha:a < n) (hb:b < n):m.getD (a * n + b) 0=((op m n a b:Nat):Int):=by
 have:=T.rng _ (at_lt ha hb)
 unfold op; omega
theorem Tab.lt {n:Nat} {m:List Int} (T:Tab n m) {a b:Nat} (ha:a < n) (hb:b < n):op m n a b < n:=by
 have:=T.rng _ (at_lt ha hb)
 unfold op; omega

theorem at_nat (a n b:Nat):((a:Int) * (n:Int) + (b:Int)).toNat=a * n + b:=by
 have:(a:Int) * (n:Int)=((a * n:Nat):Int):=(Int.natCast_mul a n).symm
 omega

theorem m_c {n:Nat} {m:List Int} (T:Tab n m) {a b:Nat} (ha:a < n) (hb:b < n):FnC Tryd.prog 75 [gp n m,.int .i64 a,.int .i64 b] (.int .i64 (op m n a b:Nat)):=by
 have h1:=at_lt ha hb
 have h2:=sq_le T.big
 have h3:=T.len
 have hc:(a:Int) * (n:Int)=((a * n:Nat):Int):=(Int.natCast_mul a n).symm
 have hv:=T.val ha hb
 refine fnc_of tab_ok Tryd.func75 rfl (by kernel_rfl) (by rw [Tryd.ntmps75]; exact Nat.le_add_left 3 _) ?_; rw [Tryd.ntmps75]
 refine qm ?_
 refine hk_region fun K hK=>runs_eval tab_ok ?_
 simp only [ev0,evA,evB,evP,fl,gp,tab,simprocAttr,reduceCtorEq,reduceIte]
 refine fin_run ?_ (hK _ ?_)<;>clear hK<;>clear K
 ·(first|exact trivial|omega|(simp only [In64] at *; omega)|(simp [In64] at *; omega)|(simp_all; done)|skip)
 refine qa (qm ?_)
 refine hk_region fun K hK=>runs_eval tab_ok ?_
 simp only [ev0,evA,evB,evP,fl,gp,tab,simprocAttr,reduceCtorEq,reduceIte,at_nat,il_get (show a * n + b < m.length by omega),hv]
 refine fin_run ?_ (hK _ ?_)<;>clear hK<;>clear K
 ·rw [hc]; simp only [In64]; omega
 refine qa (qk ?_)
 simp only [Tryd.results75,enA,ev0,evA,evB,evP,fl,gp,tab,simprocAttr,reduceCtorEq,reduceIte]
 all_goals (rfl)

def isE (m:List Int) (n a:Nat):Prop:=∀ b,b < n→op m n a b=b∧op m n b a=b
instance (m:List Int) (n a:Nat):Decidable (isE m n a):=by unfold isE; infer_instance

/-- The first that is the one; -1. -/
def eI (m:List Int) (n:Nat):Int:=match fst' (fun a=>decide (isE m n a)) n with | some a=>(a:Int) | none=>-1

theorem dall_no {P:Nat→Prop} {b:Nat} [Decidable (∀ c,c < b + 1→P c)] (h:¬ P b):decide (∀ c,c < b + 1→P c)=false:=by
 simp only [decide_eq_false_iff_not]
 exact fun h'=>h (h' b (Nat.lt_succ_self b))
theorem dall_yes {P:Nat→Prop} {b:Nat} [Decidable (∀ c,c < b + 1→P c)] [Decidable (∀ c,c < b→P c)] (h:P b):decide (∀ c,c < b + 1→P c)=decide (∀ c,c < b→P c):=by
 apply decide_eq_decide.2
 constructor
 ·exact fun h' c hc=>h' c (by omega)
 ·intro h' c hc
  by_cases e:c=b
  ·subst e; exact h
  ·exact h' c (by omega)

theorem e_c {n:Nat} {m:List Int} (T:Tab n m):FnC Tryd.prog 62 [gp n m] (.int .i64 (eI m n)):=by
 have hb:=T.big
 refine fnc_of tab_ok Tryd.func62 rfl (by kernel_rfl) (by rw [Tryd.ntmps62]; exact Nat.le_add_left 1 _) ?_; rw [Tryd.ntmps62]
 refine qm ?_
 refine hk_region fun K hK=>runs_eval tab_ok ?_
 simp only [ev0,evA,evB,evP,fl,gp,tab,simprocAttr,reduceCtorEq,reduceIte]
 refine fin_run ?_ (hK _ ?_)<;>clear hK<;>clear K
 ·(first|exact trivial|omega|(simp only [In64] at *; omega)|(simp [In64] at *; omega)|(simp_all; done)|skip)
 refine qa (qm (qm ?_))
 refine hk_region fun K hK=>runs_eval tab_ok ?_
 simp only [ev0,evA,evB,evP,fl,gp,tab,simprocAttr,reduceCtorEq,reduceIte]
 refine fin_run trivial (hK _ ?_)<;>clear hK<;>clear K
 refine qa (ql ?_)
 refine hk_loop (ι:=Nat) (fun i=>⟨34,[(1,.ptr 0 0),(3,.p (.int .i64 i))],[.own [.p (.int .i64 n),.p (.list (il m))]]⟩) (fun i=>i≤n∧∀ j,j < i→¬ isE m n j) (fun i=>n - i) 0 ⟨Nat.zero_le _,fun j hj=>by omega⟩ [0] (by simp only [leq,leA,ev0,evA,evB,evP,fl,gp,tab,simprocAttr,reduceCtorEq,reduceIte]<;>trivial) fun i hi=>?_
 obtain ⟨hi1,hi2⟩:=hi
 refine qm (qm ?_)
 refine hk_region fun K hK=>runs_eval tab_ok ?_
 simp only [ev0,evA,evB,evP,fl,gp,tab,simprocAttr,reduceCtorEq,reduceIte]
 refine fin_run ?_ (hK _ ?_)<;>clear hK<;>clear K
 ·(first|exact trivial|omega|(simp only [In64] at *; omega)|(simp [In64] at *; omega)|(simp_all; done)|skip)
 refine qa ?_
 refine hk_cond rfl (fun hC1=>?_) (fun hC1=>?_)
 ·(try simp only [nhs] at hC1)
  have hlt:i < n:=by omega
  refine qh (qa (qm (ql (qm ?_))))
  refine hk_region fun K hK=>runs_eval tab_ok ?_
  simp only [ev0,evA,evB,evP,fl,gp,tab,simprocAttr,reduceCtorEq,reduceIte]
  refine fin_run trivial (hK _ ?_)<;>clear hK<;>clear K
  refine qa (qm (qm ?_))
  refine hk_region fun K hK=>runs_eval tab_ok ?_
  simp only [ev0,evA,evB,evP,fl,gp,tab,simprocAttr,reduceCtorEq,reduceIte]
  refine fin_run trivial (hK _ ?_)<;>clear hK<;>clear K
  refine qa (ql ?_)
  refine hk_loop (ι:=Nat) (fun b=>⟨34,[(1,.ptr 0 0),(3,.p (.int .i64 i)),(4,.p (.bool (decide (∀ c,c < b→op m n i c=c∧op m n c i=c)))),(5,.p (.int .i64 b))],[.own [.p (.int .i64 n),.p (.list (il m))]]⟩) (fun b=>b≤n) (fun b=>n - b) 0 (Nat.zero_le _) [0] (by simp only [leq,leA,ev0,evA,evB,evP,fl,gp,tab,simprocAttr,reduceCtorEq,reduceIte]<;>simp) fun b hb=>?_
  refine qm (qm ?_)
  refine hk_region fun K hK=>runs_eval tab_ok ?_
  simp only [ev0,evA,evB,evP,fl,gp,tab,simprocAttr,reduceCtorEq,reduceIte]
  refine fin_run ?_ (hK _ ?_)<;>clear hK<;>clear K
  ·(first|exact trivial|omega|(simp only [In64] at *; omega)|(simp [In64] at *; omega)|(simp_all; done)|skip)
  refine qa ?_
  refine hk_cond rfl (fun hC2=>?_) (fun hC2=>?_)
  ·(try simp only [nhs] at hC2)
   have hbl:b < n:=by omega
   refine qh (qa (qm (ql (qm ?_))))
   by_cases g8a:(((op m n i b:Nat):Int)=(b:Nat))
   ·refine hk_region fun K hK=>runs_eval tab_ok ?_
    simp only [ev0,evA,evB,evP,fl,gp,tab,simprocAttr,reduceCtorEq,reduceIte,decide_eq_true g8a]
    refine fin_stop trivial (runs_call (m_c T hlt hbl) rfl rfl rfl (by simp only [dstOk,Nat.reduceLT]) (by repeat (first|exact trivial|constructor)) (runs_eval tab_ok ?_))
    simp only [ev0,evA,evB,evP,fl,gp,tab,simprocAttr,reduceCtorEq,reduceIte,decide_eq_true g8a]
    refine fin_stop trivial (runs_call (m_c T hbl hlt) rfl rfl rfl (by simp only [dstOk,Nat.reduceLT]) (by repeat (first|exact trivial|constructor)) (runs_eval tab_ok ?_))
    simp only [ev0,evA,evB,evP,fl,gp,tab,simprocAttr,reduceCtorEq,reduceIte,decide_eq_true g8a]
    refine fin_run ?_ (hK _ ?_)<;>clear hK<;>clear K
    ·(first|exact trivial|omega|(simp only [In64] at *; omega)|(simp [In64] at *; omega)|(simp_all; done)|skip)
    refine qa ?_
    refine hk_cond rfl (fun hC3=>?_) (fun hC3=>?_)
    ·(try simp only [nhs] at hC3)
     have hno:¬ (op m n i b=b∧op m n b i=b):=by omega
     refine hk_region fun K hK=>runs_eval tab_ok ?_
     simp only [ev0,evA,evB,evP,fl,gp,tab,simprocAttr,reduceCtorEq,reduceIte]
     refine fin_run trivial (hK _ ?_)<;>clear hK<;>clear K
     refine qd (qa ?_)
     refine hk_region fun K hK=>runs_eval tab_ok ?_
     simp only [ev0,evA,evB,evP,fl,gp,tab,simprocAttr,reduceCtorEq,reduceIte]
     refine fin_run ?_ (hK _ ?_)<;>clear hK<;>clear K
     ·(first|exact trivial|omega|(simp only [In64] at *; omega)|(simp [In64] at *; omega)|(simp_all; done)|skip)
     refine qa ?_
     refine ⟨b + 1,[0],by omega,by omega,?_⟩
     first|rw [dall_no hno]|rw [dall_yes hyes]
     simp only [leq,leA,ev0,evA,evB,evP,fl,gp,tab,simprocAttr,reduceCtorEq,reduceIte]<;>trivial
    ·(try simp only [nhs] at hC3)
     have hyes:op m n i b=b∧op m n b i=b:=by omega
     refine qh (qd (qa ?_))
     refine hk_region fun K hK=>runs_eval tab_ok ?_
     simp only [ev0,evA,evB,evP,fl,gp,tab,simprocAttr,reduceCtorEq,reduceIte]
     refine fin_run ?_ (hK _ ?_)<;>clear hK<;>clear K
     ·(first|exact trivial|omega|(simp only [In64] at *; omega)|(simp [In64] at *; omega)|(simp_all; done)|skip)
     refine qa ?_
     refine ⟨b + 1,[0],by omega,by omega,?_⟩
     first|rw [dall_no hno]|rw [dall_yes hyes]
     simp only [leq,leA,ev0,evA,evB,evP,fl,gp,tab,simprocAttr,reduceCtorEq,reduceIte]<;>trivial
   ·refine hk_region fun K hK=>runs_eval tab_ok ?_
    simp only [ev0,evA,evB,evP,fl,gp,tab,simprocAttr,reduceCtorEq,reduceIte,decide_eq_false g8a]
    refine fin_stop trivial (runs_call (m_c T hlt hbl) rfl rfl rfl (by simp only [dstOk,Nat.reduceLT]) (by repeat (first|exact trivial|constructor)) (runs_eval tab_ok ?_))
    simp only [ev0,evA,evB,evP,fl,gp,tab,simprocAttr,reduceCtorEq,reduceIte,decide_eq_false g8a]
    refine fin_run ?_ (hK _ ?_)<;>clear hK<;>clear K
    ·(first|exact trivial|omega|(simp only [In64] at *; omega)|(simp [In64] at *; omega)|(simp_all; done)|skip)
    refine qa ?_
    refine hk_cond rfl (fun hC3=>?_) (fun hC3=>?_)
    ·have hno:¬ (op m n i b=b∧op m n b i=b):=by omega
     refine hk_region fun K hK=>runs_eval tab_ok ?_
     simp only [ev0,evA,evB,evP,fl,gp,tab,simprocAttr,reduceCtorEq,reduceIte]
     refine fin_run trivial (hK _ ?_)<;>clear hK<;>clear K
     refine qd (qa ?_)
     refine hk_region fun K hK=>runs_eval tab_ok ?_
     simp only [ev0,evA,evB,evP,fl,gp,tab,simprocAttr,reduceCtorEq,reduceIte]
     refine fin_run ?_ (hK _ ?_)<;>clear hK<;>clear K
     ·(first|exact trivial|omega|(simp only [In64] at *; omega)|(simp [In64] at *; omega)|(simp_all; done)|skip)
     refine qa ?_
     refine ⟨b + 1,[0],by omega,by omega,?_⟩
     first|rw [dall_no hno]|rw [dall_yes hyes]
     simp only [leq,leA,ev0,evA,evB,evP,fl,gp,tab,simprocAttr,reduceCtorEq,reduceIte]<;>trivial
    ·cases hC3
  ·(try simp only [nhs] at hC2)
   refine qj (qc (qc (qf (qa (qm ?_)))))
   refine hk_region fun K hK=>runs_eval tab_ok ?_
   simp only [ev0,evA,evB,evP,fl,gp,tab,simprocAttr,reduceCtorEq,reduceIte]
   refine fin_run trivial (hK _ ?_)<;>clear hK<;>clear K
   refine qa ?_
   refine hk_cond rfl (fun hC4=>?_) (fun hC4=>?_)
   ·(try simp only [nhs] at hC4)
    have hE:isE m n i:=by
     have:b=n:=by omega
     subst this; exact hC4
    refine qm ?_
    refine hk_region fun K hK=>runs_eval tab_ok ?_
    simp only [ev0,evA,evB,evP,fl,gp,tab,simprocAttr,reduceCtorEq,reduceIte]
    refine fin_run trivial (hK _ ?_)<;>clear hK<;>clear K
    refine qa (qk (qe (qb (qb (qe (qb ?_))))))
    simp only [Tryd.results62,enA,ev0,evA,evB,evP,fl,gp,tab,simprocAttr,reduceCtorEq,reduceIte]
    all_goals (unfold eI; rw [fst_some hlt (decide_eq_true hE) fun j hj=>decide_eq_false (hi2 j hj)])
   ·(try simp only [nhs] at hC4)
    refine qh (qd (qa ?_))
    refine hk_region fun K hK=>runs_eval tab_ok ?_
    simp only [ev0,evA,evB,evP,fl,gp,tab,simprocAttr,reduceCtorEq,reduceIte]
    refine fin_run ?_ (hK _ ?_)<;>clear hK<;>clear K
    ·(first|exact trivial|omega|(simp only [In64] at *; omega)|(simp [In64] at *; omega)|(simp_all; done)|skip)
    refine qa ?_
    refine ⟨i + 1,[0],⟨by omega,fun j hj=>?_⟩,by omega,?_⟩
    ·by_cases hj:j=i
     ·subst hj
      have:b=n:=by omega
      subst this; exact hC4
     ·exact hi2 j (by omega)
    ·simp only [leq,leA,ev0,evA,evB,evP,fl,gp,tab,simprocAttr,reduceCtorEq,reduceIte]<;>omega
 ·(try simp only [nhs] at hC1)
  refine qj (qc (qc (qf (qa (qm ?_)))))
  refine hk_region fun K hK=>runs_eval tab_ok ?_
  simp only [ev0,evA,evB,evP,fl,gp,tab,simprocAttr,reduceCtorEq,reduceIte]
  refine fin_run trivial (hK _ ?_)<;>clear hK<;>clear K
  refine qa (qk ?_)
  simp only [Tryd.results62,enA,ev0,evA,evB,evP,fl,gp,tab,simprocAttr,reduceCtorEq,reduceIte]
  all_goals (unfold eI; rw [fst_none fun j hj=>decide_eq_false (hi2 j (by omega))])
end Go.Proofs.YtboadfahlflmhaaDoor

/-
  Walks: the document's words of groups: faults. Conditions: none.
-/
set_option linter.all false
namespace Go.Proofs.YtboadfahlflmhaaDoor
open Go.Pv

theorem f_c (c a:Int):FnC Tryd.prog 23 [.int .i64 c,.int .i64 a] (fl (c,a)):=by
 refine fnc_of tab_ok Tryd.func23 rfl (by kernel_rfl) (by rw [Tryd.ntmps23]; exact Nat.le_add_left 2 _) ?_; rw [Tryd.ntmps23]
 refine qm ?_
 refine hk_region fun K hK=>runs_eval tab_ok ?_
 simp only [ev0,evA,evB,evP,fl,gp,tab,simprocAttr,reduceCtorEq,reduceIte]
 refine fin_run ?_ (hK _ ?_)<;>clear hK<;>clear K
 ·(first|exact trivial|omega|(simp only [In64] at *; omega)|(simp [In64] at *; omega)|(simp_all; done)|skip)
 refine qa (qm ?_)
 refine hk_region fun K hK=>runs_eval tab_ok ?_
 simp only [ev0,evA,evB,evP,fl,gp,tab,simprocAttr,reduceCtorEq,reduceIte]
 refine fin_run ?_ (hK _ ?_)<;>clear hK<;>clear K
 ·(first|exact trivial|omega|(simp only [In64] at *; omega)|(simp [In64] at *; omega)|(simp_all; done)|skip)
 refine qa (qk ?_)
 simp only [Tryd.results23,enA,ev0,evA,evB,evP,fl,gp,tab,simprocAttr,reduceCtorEq,reduceIte]
 all_goals (rfl)

def iI (m:List Int) (n a:Nat):Int:=match fst' (fun b=>decide (((op m n a b:Nat):Int)=eI m n∧((op m n b a:Nat):Int)=eI m n)) n with | some b=>(b:Int) | none=>-1

theorem i_c {n:Nat} {m:List Int} (T:Tab n m) {a:Nat} (ha:a < n):FnC Tryd.prog 87 [gp n m,.int .i64 a] (.int .i64 (iI m n a)):=by
 have hb:=T.big
 refine fnc_of tab_ok Tryd.func87 rfl (by kernel_rfl) (by rw [Tryd.ntmps87]; exact Nat.le_add_left 2 _) ?_; rw [Tryd.ntmps87]
 refine qm ?_
 refine hk_region fun K hK=>runs_eval tab_ok ?_
 simp only [ev0,evA,evB,evP,fl,gp,tab,simprocAttr,reduceCtorEq,reduceIte]
 refine fin_run ?_ (hK _ ?_)<;>clear hK<;>clear K
 ·(first|exact trivial|omega|(simp only [In64] at *; omega)|(simp [In64] at *; omega)|(simp_all; done)|skip)
 refine qa (qm ?_)
 refine hk_region fun K hK=>runs_eval tab_ok ?_
 simp only [ev0,evA,evB,evP,fl,gp,tab,simprocAttr,reduceCtorEq,reduceIte]
 refine fin_stop trivial (runs_call (e_c T) rfl rfl rfl (by simp only [dstOk,Nat.reduceLT]) (by repeat (first|exact trivial|constructor)) (runs_eval tab_ok ?_))
 simp only [ev0,evA,evB,evP,fl,gp,tab,simprocAttr,reduceCtorEq,reduceIte]
 refine fin_run ?_ (hK _ ?_)<;>clear hK<;>clear K
 ·(first|exact trivial|omega|(simp only [In64] at *; omega)|(simp [In64] at *; omega)|(simp_all; done)|skip)
 refine qa (qm (qm ?_))
 refine hk_region fun K hK=>runs_eval tab_ok ?_
 simp only [ev0,evA,evB,evP,fl,gp,tab,simprocAttr,reduceCtorEq,reduceIte]
 refine fin_run trivial (hK _ ?_)<;>clear hK<;>clear K
 refine qa (ql ?_)
 refine hk_loop (ι:=Nat) (fun i=>⟨30,[(1,.p (.int .i64 a)),(2,.ptr 0 0),(5,.p (.int .i64 (eI m n))),(6,.p (.int .i64 i))],[.own [.p (.int .i64 n),.p (.list (il m))]]⟩) (fun i=>i≤n∧∀ j,j < i→¬ (((op m n a j:Nat):Int)=eI m n∧((op m n j a:Nat):Int)=eI m n)) (fun i=>n - i) 0 ⟨Nat.zero_le _,fun j hj=>by omega⟩ [0] (by simp only [leq,leA,ev0,evA,evB,evP,fl,gp,tab,simprocAttr,reduceCtorEq,reduceIte]<;>trivial) fun i hi=>?_
 obtain ⟨hi1,hi2⟩:=hi
 refine qm (qm ?_)
 refine hk_region fun K hK=>runs_eval tab_ok ?_
 simp only [ev0,evA,evB,evP,fl,gp,tab,simprocAttr,reduceCtorEq,reduceIte]
 refine fin_run ?_ (hK _ ?_)<;>clear hK<;>clear K
 ·(first|exact trivial|omega|(simp only [In64] at *; omega)|(simp [In64] at *; omega)|(simp_all; done)|skip)
 refine qa ?_
 refine hk_cond rfl (fun hC1=>?_) (fun hC1=>?_)
 ·(try simp only [nhs] at hC1)
  have hlt:i < n:=by omega
  refine qh (qa (qm (ql (qm ?_))))
  by_cases g5a:((op m n a i:Nat):Int)=eI m n
  ·refine hk_region fun K hK=>runs_eval tab_ok ?_
   simp only [ev0,evA,evB,evP,fl,gp,tab,simprocAttr,reduceCtorEq,reduceIte,decide_eq_true g5a]
   refine fin_stop trivial (runs_call (m_c T ha hlt) rfl rfl rfl (by simp only [dstOk,Nat.reduceLT]) (by repeat (first|exact trivial|constructor)) (runs_eval tab_ok ?_))
   simp only [ev0,evA,evB,evP,fl,gp,tab,simprocAttr,reduceCtorEq,reduceIte,decide_eq_true g5a]
   refine fin_stop trivial (runs_call (m_c T hlt ha) rfl rfl rfl (by simp only [dstOk,Nat.reduceLT]) (by repeat (first|exact trivial|constructor)) (runs_eval tab_ok ?_))
   simp only [ev0,evA,evB,evP,fl,gp,tab,simprocAttr,reduceCtorEq,reduceIte,decide_eq_true g5a]
   refine fin_run ?_ (hK _ ?_)<;>clear hK<;>clear K
   ·(first|exact trivial|omega|(simp only [In64] at *; omega)|(simp [In64] at *; omega)|(simp_all; done)|skip)
   refine qa ?_
   refine hk_cond rfl (fun hC2=>?_) (fun hC2=>?_)
   ·(try simp only [nhs] at hC2)
    refine qm ?_
    refine hk_region fun K hK=>runs_eval tab_ok ?_
    simp only [ev0,evA,evB,evP,fl,gp,tab,simprocAttr,reduceCtorEq,reduceIte]
    refine fin_run trivial (hK _ ?_)<;>clear hK<;>clear K
    refine qa (qk (qe (qb (qb (qe (qb ?_))))))
    simp only [Tryd.results87,enA,ev0,evA,evB,evP,fl,gp,tab,simprocAttr,reduceCtorEq,reduceIte]
    all_goals (unfold iI; rw [fst_some hlt (decide_eq_true ⟨g5a,hC2⟩) fun j hj=>decide_eq_false (hi2 j hj)])
   ·(try simp only [nhs] at hC2)
    have hno:¬ (((op m n a i:Nat):Int)=eI m n∧((op m n i a:Nat):Int)=eI m n):=fun h=>by first|exact hC2 h.2|exact g5a h.1
    refine qh (qd (qa ?_))
    refine hk_region fun K hK=>runs_eval tab_ok ?_
    simp only [ev0,evA,evB,evP,fl,gp,tab,simprocAttr,reduceCtorEq,reduceIte]
    refine fin_run ?_ (hK _ ?_)<;>clear hK<;>clear K
    ·(first|exact trivial|omega|(simp only [In64] at *; omega)|(simp [In64] at *; omega)|(simp_all; done)|skip)
    refine qa ?_
    refine ⟨i + 1,[0],⟨by omega,fun j hj=>?_⟩,by omega,?_⟩
    ·by_cases hj:j=i
     ·subst hj; exact hno
     ·exact hi2 j (by omega)
    ·simp only [leq,leA,ev0,evA,evB,evP,fl,gp,tab,simprocAttr,reduceCtorEq,reduceIte]<;>omega
  ·refine hk_region fun K hK=>runs_eval tab_ok ?_
   simp only [ev0,evA,evB,evP,fl,gp,tab,simprocAttr,reduceCtorEq,reduceIte,decide_eq_false g5a]
   refine fin_stop trivial (runs_call (m_c T ha hlt) rfl rfl rfl (by simp only [dstOk,Nat.reduceLT]) (by repeat (first|exact trivial|constructor)) (runs_eval tab_ok ?_))
   simp only [ev0,evA,evB,evP,fl,gp,tab,simprocAttr,reduceCtorEq,reduceIte,decide_eq_false g5a]
   refine fin_run ?_ (hK _ ?_)<;>clear hK<;>clear K
   ·(first|exact trivial|omega|(simp only [In64] at *; omega)|(simp [In64] at *; omega)|(simp_all; done)|skip)
   refine qa ?_
   refine hk_cond rfl (fun hC2=>?_) (fun hC2=>?_)
   ·cases hC2
   ·have hno:¬ (((op m n a i:Nat):Int)=eI m n∧((op m n i a:Nat):Int)=eI m n):=fun h=>by first|exact hC2 h.2|exact g5a h.1
    refine qh (qd (qa ?_))
    refine hk_region fun K hK=>runs_eval tab_ok ?_
    simp only [ev0,evA,evB,evP,fl,gp,tab,simprocAttr,reduceCtorEq,reduceIte]
    refine fin_run ?_ (hK _ ?_)<;>clear hK<;>clear K
    ·(first|exact trivial|omega|(simp only [In64] at *; omega)|(simp [In64] at *; omega)|(simp_all; done)|skip)
    refine qa ?_
    refine ⟨i + 1,[0],⟨by omega,fun j hj=>?_⟩,by omega,?_⟩
    ·by_cases hj:j=i
     ·subst hj; exact hno
     ·exact hi2 j (by omega)
    ·simp only [leq,leA,ev0,evA,evB,evP,fl,gp,tab,simprocAttr,reduceCtorEq,reduceIte]<;>omega
 ·(try simp only [nhs] at hC1)
  refine qj (qc (qc (qf (qa (qm ?_)))))
  refine hk_region fun K hK=>runs_eval tab_ok ?_
  simp only [ev0,evA,evB,evP,fl,gp,tab,simprocAttr,reduceCtorEq,reduceIte]
  refine fin_run trivial (hK _ ?_)<;>clear hK<;>clear K
  refine qa (qk ?_)
  simp only [Tryd.results87,enA,ev0,evA,evB,evP,fl,gp,tab,simprocAttr,reduceCtorEq,reduceIte]
  all_goals (unfold iI; rw [fst_none fun j hj=>decide_eq_false (hi2 j (by omega))])

def asc (m:List Int) (n a:Nat):Prop:=∀ b,b < n→∀ c,c < n→op m n (op m n a b) c=op m n a (op m n b c)
instance (m:List Int) (n a:Nat):Decidable (asc m n a):=by unfold asc; infer_instance

def gf2 (m:List Int) (n:Nat):Int × Int:=
 if eI m n < 0 then (6,0)
 else match fst' (fun a=>decide (¬ asc m n a)) n with
  | some a=>(7,(a:Int))
  | none=>match fst' (fun a=>decide (iI m n a < 0)) n with
   | some a=>(4,(a:Int))
   | none=>(0,0)

def bad (N:Int) (m:List Int) (i:Nat):Bool:=decide (m.getD i 0 < 0∨m.getD i 0 ≥ N)

/-- THE FAULT of a table. -/
def gf (N:Int) (m:List Int):Int × Int:=
 if N < 1∨N > 60 then (2,0)
 else if ¬ (m.length:Int)=N * N then (8,0)
 else match fst' (bad N m) m.length with
  | some i=>(3,(i:Int))
  | none=>gf2 m N.toNat

theorem sq_int (n:Nat):(n:Int) * (n:Int)=((n * n:Nat):Int):=(Int.natCast_mul n n).symm

theorem gf_size {n:Nat} {m:List Int} (h1:1≤n) (h2:n≤60) (h3:m.length ≠ n * n):gf n m=(8,0):=by
 unfold gf
 rw [if_neg (by omega),if_pos (by rw [sq_int]; omega)]
theorem gf_range {n:Nat} {m:List Int} (h1:1≤n) (h2:n≤60) (h3:m.length=n * n) {i:Nat} (hi:i < m.length) (hb:bad n m i=true) (hj:∀ j,j < i→bad n m j=false):gf n m=(3,(i:Int)):=by
 unfold gf
 rw [if_neg (by omega),if_neg (by rw [sq_int]; omega),fst_some hi hb hj]
theorem gf_tab {n:Nat} {m:List Int} (T:Tab n m):gf n m=gf2 m n:=by
 have h1:=T.pos
 have h2:=T.big
 have h3:=T.len
 unfold gf
 rw [if_neg (by omega),if_neg (by rw [sq_int]; omega),fst_none]
 ·rfl
 ·intro j hj
  have:=T.rng j (by omega)
  exact decide_eq_false (by omega)

theorem gf2_6 {m:List Int} {n:Nat} (h:eI m n < 0):gf2 m n=(6,0):=by
 unfold gf2; rw [if_pos h]
theorem gf2_7 {m:List Int} {n a:Nat} (h:¬ eI m n < 0) (ha:a < n) (hn:¬ asc m n a) (hj:∀ j,j < a→asc m n j):gf2 m n=(7,(a:Int)):=by
 have:fst' (fun a=>decide (¬ asc m n a)) n=some a:=fst_some ha (decide_eq_true hn) fun j h=>decide_eq_false fun h'=>h' (hj j h)
 unfold gf2; rw [if_neg h,this]
theorem gf2_4 {m:List Int} {n a:Nat} (h:¬ eI m n < 0) (hs:∀ j,j < n→asc m n j) (ha:a < n) (hn:iI m n a < 0) (hj:∀ j,j < a→¬ iI m n j < 0):gf2 m n=(4,(a:Int)):=by
 have h1:fst' (fun a=>decide (¬ asc m n a)) n=none:=fst_none fun j h=>decide_eq_false fun h'=>h' (hs j h)
 have h2:fst' (fun a=>decide (iI m n a < 0)) n=some a:=fst_some ha (decide_eq_true hn) fun j h=>decide_eq_false (hj j h)
 unfold gf2; rw [if_neg h,h1,h2]
theorem gf2_0 {m:List Int} {n:Nat} (h:¬ eI m n < 0) (hs:∀ j,j < n→asc m n j) (hj:∀ j,j < n→¬ iI m n j < 0):gf2 m n=(0,0):=by
 have h1:fst' (fun a=>decide (¬ asc m n a)) n=none:=fst_none fun j h=>decide_eq_false fun h'=>h' (hs j h)
 have h2:fst' (fun a=>decide (iI m n a < 0)) n=none:=fst_none fun j h=>decide_eq_false (hj j h)
 unfold gf2; rw [if_neg h,h1,h2]

set_option maxHeartbeats 2000000 in
theorem gf_c (N:Int) (m:List Int) (hm:m.length≤1000000000000000):FnC Tryd.prog 16 [gp N m] (fl (gf N m)):=by
 refine fnc_of tab_ok Tryd.func16 rfl (by kernel_rfl) (by rw [Tryd.ntmps16]; exact Nat.le_add_left 1 _) ?_; rw [Tryd.ntmps16]
 refine qm ?_
 refine hk_region fun K hK=>runs_eval tab_ok ?_
 simp only [ev0,evA,evB,evP,fl,gp,tab,simprocAttr,reduceCtorEq,reduceIte]
 refine fin_run ?_ (hK _ ?_)<;>clear hK<;>clear K
 ·(first|exact trivial|omega|(simp only [In64] at *; omega)|(simp [In64] at *; omega)|(simp_all; done)|skip)
 refine qa (qm (qm ?_))
 by_cases g1a:N < 1
 ·refine hk_region fun K hK=>runs_eval tab_ok ?_
  simp only [ev0,evA,evB,evP,fl,gp,tab,simprocAttr,reduceCtorEq,reduceIte,decide_eq_true g1a]
  refine fin_run ?_ (hK _ ?_)<;>clear hK<;>clear K
  ·(first|exact trivial|omega|(simp only [In64] at *; omega)|(simp [In64] at *; omega)|(simp_all; done)|skip)
  refine qa ?_
  refine hk_cond rfl (fun hC1=>?_) (fun hC1=>?_)
  ·refine qm ?_
   refine hk_region fun K hK=>runs_eval tab_ok ?_
   simp only [ev0,evA,evB,evP,fl,gp,tab,simprocAttr,reduceCtorEq,reduceIte]
   refine fin_stop trivial (runs_call (f_c 2 0) rfl rfl rfl (by simp only [dstOk,Nat.reduceLT]) (by repeat (first|exact trivial|constructor)) (runs_eval tab_ok ?_))
   simp only [ev0,evA,evB,evP,fl,gp,tab,simprocAttr,reduceCtorEq,reduceIte]
   refine fin_run ?_ (hK _ ?_)<;>clear hK<;>clear K
   ·(first|exact trivial|omega|(simp only [In64] at *; omega)|(simp [In64] at *; omega)|(simp_all; done)|skip)
   refine qa (qk (qb ?_))
   simp only [Tryd.results16,enA,ev0,evA,evB,evP,fl,gp,tab,simprocAttr,reduceCtorEq,reduceIte]
   all_goals (unfold gf; rw [if_pos (.inl g1a)]; simp)
  ·cases hC1
 ·refine hk_region fun K hK=>runs_eval tab_ok ?_
  simp only [ev0,evA,evB,evP,fl,gp,tab,simprocAttr,reduceCtorEq,reduceIte,decide_eq_false g1a]
  refine fin_run ?_ (hK _ ?_)<;>clear hK<;>clear K
  ·(first|exact trivial|omega|(simp only [In64] at *; omega)|(simp [In64] at *; omega)|(simp_all; done)|skip)
  refine qa ?_
  refine hk_cond rfl (fun hC1=>?_) (fun hC1=>?_)
  ·(try simp only [nhs] at hC1)
   refine qm ?_
   refine hk_region fun K hK=>runs_eval tab_ok ?_
   simp only [ev0,evA,evB,evP,fl,gp,tab,simprocAttr,reduceCtorEq,reduceIte]
   refine fin_stop trivial (runs_call (f_c 2 0) rfl rfl rfl (by simp only [dstOk,Nat.reduceLT]) (by repeat (first|exact trivial|constructor)) (runs_eval tab_ok ?_))
   simp only [ev0,evA,evB,evP,fl,gp,tab,simprocAttr,reduceCtorEq,reduceIte]
   refine fin_run ?_ (hK _ ?_)<;>clear hK<;>clear K
   ·(first|exact trivial|omega|(simp only [In64] at *; omega)|(simp [In64] at *; omega)|(simp_all; done)|skip)
   refine qa (qk (qb ?_))
   simp only [Tryd.results16,enA,ev0,evA,evB,evP,fl,gp,tab,simprocAttr,reduceCtorEq,reduceIte]
   all_goals (unfold gf; rw [if_pos (.inr hC1)]; simp)
  ·(try simp only [nhs] at hC1)
   obtain ⟨n,rfl⟩:=Int.eq_ofNat_of_zero_le (show 0≤N by omega)
   have hnn:=sq_int n
   have hsq:=sq_le (show n≤60 by omega)
   refine qh (qa (qm (qm ?_)))
   refine hk_region fun K hK=>runs_eval tab_ok ?_
   simp only [ev0,evA,evB,evP,fl,gp,tab,simprocAttr,reduceCtorEq,reduceIte]
   refine fin_run ?_ (hK _ ?_)<;>clear hK<;>clear K
   ·simp only [In64]; omega
   refine qa ?_
   refine hk_cond rfl (fun hC2=>?_) (fun hC2=>?_)
   ·(try simp only [nhs] at hC2)
    refine qm ?_
    refine hk_region fun K hK=>runs_eval tab_ok ?_
    simp only [ev0,evA,evB,evP,fl,gp,tab,simprocAttr,reduceCtorEq,reduceIte]
    refine fin_stop trivial (runs_call (f_c 8 0) rfl rfl rfl (by simp only [dstOk,Nat.reduceLT]) (by repeat (first|exact trivial|constructor)) (runs_eval tab_ok ?_))
    simp only [ev0,evA,evB,evP,fl,gp,tab,simprocAttr,reduceCtorEq,reduceIte]
    refine fin_run ?_ (hK _ ?_)<;>clear hK<;>clear K
    ·(first|exact trivial|omega|(simp only [In64] at *; omega)|(simp [In64] at *; omega)|(simp_all; done)|skip)
    refine qa (qk (qb ?_))
    simp only [Tryd.results16,enA,ev0,evA,evB,evP,fl,gp,tab,simprocAttr,reduceCtorEq,reduceIte]
    all_goals (rw [gf_size (by omega) (by omega) (by omega)]; simp)
   ·(try simp only [nhs] at hC2)
    have hl:m.length=n * n:=by omega
    refine qh (qa (qm (qm ?_)))
    refine hk_region fun K hK=>runs_eval tab_ok ?_
    simp only [ev0,evA,evB,evP,fl,gp,tab,simprocAttr,reduceCtorEq,reduceIte]
    refine fin_run trivial (hK _ ?_)<;>clear hK<;>clear K
    refine qa (ql ?_)
    refine hk_loop (ι:=Nat) (fun i=>⟨104,[(1,.ptr 0 0),(2,.ptr 1 0),(3,.p (.int .i64 i))],[.own [.p (.int .i64 n),.p (.list (il m))],.own [.p (.int .i64 0),.p (.int .i64 0)]]⟩) (fun i=>i≤m.length∧∀ j,j < i→bad n m j=false) (fun i=>m.length - i) 0 ⟨Nat.zero_le _,fun j hj=>by omega⟩ [0,1] (by simp only [leq,leA,ev0,evA,evB,evP,fl,gp,tab,simprocAttr,reduceCtorEq,reduceIte]<;>trivial) fun i hi=>?_
    obtain ⟨hi1,hi2⟩:=hi
    refine qm (qm ?_)
    refine hk_region fun K hK=>runs_eval tab_ok ?_
    simp only [ev0,evA,evB,evP,fl,gp,tab,simprocAttr,reduceCtorEq,reduceIte]
    refine fin_run ?_ (hK _ ?_)<;>clear hK<;>clear K
    ·(first|exact trivial|omega|(simp only [In64] at *; omega)|(simp [In64] at *; omega)|(simp_all; done)|skip)
    refine qa ?_
    refine hk_cond rfl (fun hC3=>?_) (fun hC3=>?_)
    ·(try simp only [nhs] at hC3)
     have hlt:i < m.length:=by omega
     refine qh (qa (qm (ql (qm ?_))))
     by_cases g8a:m.getD i 0 < 0
     ·refine hk_draw mixed (by kernel_rfl) fun K hK=>runs_eval tab_ok ?_
      simp only [ev0,evA,evB,evP,fl,gp,tab,simprocAttr,reduceCtorEq,reduceIte,il_get hlt,decide_eq_true g8a]
      refine fin_run ?_ (hK _ ?_)<;>clear hK<;>clear K
      ·(first|exact trivial|omega|(simp only [In64] at *; omega)|(simp [In64] at *; omega)|(simp_all; done)|skip)
      refine qa ?_
      refine hk_cond rfl (fun hC4=>?_) (fun hC4=>?_)
      ·refine qm ?_
       refine hk_region fun K hK=>runs_eval tab_ok ?_
       simp only [ev0,evA,evB,evP,fl,gp,tab,simprocAttr,reduceCtorEq,reduceIte]
       refine fin_stop trivial (runs_call (f_c 3 i) rfl rfl rfl (by simp only [dstOk,Nat.reduceLT]) (by repeat (first|exact trivial|constructor)) (runs_eval tab_ok ?_))
       simp only [ev0,evA,evB,evP,fl,gp,tab,simprocAttr,reduceCtorEq,reduceIte]
       refine fin_run ?_ (hK _ ?_)<;>clear hK<;>clear K
       ·(first|exact trivial|omega|(simp only [In64] at *; omega)|(simp [In64] at *; omega)|(simp_all; done)|skip)
       refine qa (qk (qe (qb (qb (qe (qb ?_))))))
       simp only [Tryd.results16,enA,ev0,evA,evB,evP,fl,gp,tab,simprocAttr,reduceCtorEq,reduceIte]
       all_goals (rw [gf_range (by omega) (by omega) hl hlt (decide_eq_true (.inl g8a)) hi2]; simp)
      ·cases hC4
     ·refine hk_draw mixed (by kernel_rfl) fun K hK=>runs_eval tab_ok ?_
      simp only [ev0,evA,evB,evP,fl,gp,tab,simprocAttr,reduceCtorEq,reduceIte,il_get hlt,decide_eq_false g8a]
      refine fin_run ?_ (hK _ ?_)<;>clear hK<;>clear K
      ·(first|exact trivial|omega|(simp only [In64] at *; omega)|(simp [In64] at *; omega)|(simp_all; done)|skip)
      refine qa ?_
      refine hk_cond rfl (fun hC4=>?_) (fun hC4=>?_)
      ·(try simp only [nhs] at hC4)
       refine qm ?_
       refine hk_region fun K hK=>runs_eval tab_ok ?_
       simp only [ev0,evA,evB,evP,fl,gp,tab,simprocAttr,reduceCtorEq,reduceIte]
       refine fin_stop trivial (runs_call (f_c 3 i) rfl rfl rfl (by simp only [dstOk,Nat.reduceLT]) (by repeat (first|exact trivial|constructor)) (runs_eval tab_ok ?_))
       simp only [ev0,evA,evB,evP,fl,gp,tab,simprocAttr,reduceCtorEq,reduceIte]
       refine fin_run ?_ (hK _ ?_)<;>clear hK<;>clear K
       ·(first|exact trivial|omega|(simp only [In64] at *; omega)|(simp [In64] at *; omega)|(simp_all; done)|skip)
       refine qa (qk (qe (qb (qb (qe (qb ?_))))))
       simp only [Tryd.results16,enA,ev0,evA,evB,evP,fl,gp,tab,simprocAttr,reduceCtorEq,reduceIte]
       all_goals (rw [gf_range (by omega) (by omega) hl hlt (decide_eq_true (.inr hC4)) hi2]; simp)
      ·(try simp only [nhs] at hC4)
       refine qh (qd (qa ?_))
       refine hk_region fun K hK=>runs_eval tab_ok ?_
       simp only [ev0,evA,evB,evP,fl,gp,tab,simprocAttr,reduceCtorEq,reduceIte]
       refine fin_run ?_ (hK _ ?_)<;>clear hK<;>clear K
       ·(first|exact trivial|omega|(simp only [In64] at *; omega)|(simp [In64] at *; omega)|(simp_all; done)|skip)
       refine qa ?_
       refine ⟨i + 1,[0,1],⟨by omega,fun j hj=>?_⟩,by omega,?_⟩
       ·by_cases hj:j=i
        ·subst hj; exact decide_eq_false (by omega)
        ·exact hi2 j (by omega)
       ·simp only [leq,leA,ev0,evA,evB,evP,fl,gp,tab,simprocAttr,reduceCtorEq,reduceIte]<;>omega
    ·(try simp only [nhs] at hC3)
     have T:Tab n m:=by
      refine ⟨by omega,by omega,hl,fun j hj=>?_⟩
      have:=of_decide_eq_false (hi2 j (by omega))
      omega
     refine qj (qc (qc (qf (qa (qm (qm ?_))))))
     refine hk_region fun K hK=>runs_eval tab_ok ?_
     simp only [ev0,evA,evB,evP,fl,gp,tab,simprocAttr,reduceCtorEq,reduceIte]
     refine fin_stop trivial (runs_call (e_c T) rfl rfl rfl (by simp only [dstOk,Nat.reduceLT]) (by repeat (first|exact trivial|constructor)) (runs_eval tab_ok ?_))
     simp only [ev0,evA,evB,evP,fl,gp,tab,simprocAttr,reduceCtorEq,reduceIte]
     refine fin_run ?_ (hK _ ?_)<;>clear hK<;>clear K
     ·(first|exact trivial|omega|(simp only [In64] at *; omega)|(simp [In64] at *; omega)|(simp_all; done)|skip)
     refine qa ?_
     refine hk_cond rfl (fun hC5=>?_) (fun hC5=>?_)
     ·(try simp only [nhs] at hC5)
      refine qm ?_
      refine hk_region fun K hK=>runs_eval tab_ok ?_
      simp only [ev0,evA,evB,evP,fl,gp,tab,simprocAttr,reduceCtorEq,reduceIte]
      refine fin_stop trivial (runs_call (f_c 6 0) rfl rfl rfl (by simp only [dstOk,Nat.reduceLT]) (by repeat (first|exact trivial|constructor)) (runs_eval tab_ok ?_))
      simp only [ev0,evA,evB,evP,fl,gp,tab,simprocAttr,reduceCtorEq,reduceIte]
      refine fin_run ?_ (hK _ ?_)<;>clear hK<;>clear K
      ·(first|exact trivial|omega|(simp only [In64] at *; omega)|(simp [In64] at *; omega)|(simp_all; done)|skip)
      refine qa (qk (qb ?_))
      simp only [Tryd.results16,enA,ev0,evA,evB,evP,fl,gp,tab,simprocAttr,reduceCtorEq,reduceIte]
      all_goals (rw [gf_tab T,gf2_6 hC5]; simp)
     ·(try simp only [nhs] at hC5)
      refine qh (qa (qm (qm ?_)))
      refine hk_region fun K hK=>runs_eval tab_ok ?_
      simp only [ev0,evA,evB,evP,fl,gp,tab,simprocAttr,reduceCtorEq,reduceIte]
      refine fin_run trivial (hK _ ?_)<;>clear hK<;>clear K
      refine qa (ql ?_)
      refine hk_loop (ι:=Nat) (fun a=>⟨104,[(1,.ptr 0 0),(2,.ptr 1 0),(4,.p (.int .i64 a))],[.own [.p (.int .i64 n),.p (.list (il m))],.own [.p (.int .i64 0),.p (.int .i64 0)]]⟩) (fun a=>a≤n∧∀ j,j < a→asc m n j) (fun a=>n - a) 0 ⟨Nat.zero_le _,fun j hj=>by omega⟩ [0,1] (by simp only [leq,leA,ev0,evA,evB,evP,fl,gp,tab,simprocAttr,reduceCtorEq,reduceIte]<;>trivial) fun a ha=>?_
      obtain ⟨ha1,ha2⟩:=ha
      refine qm (qm ?_)
      refine hk_region fun K hK=>runs_eval tab_ok ?_
      simp only [ev0,evA,evB,evP,fl,gp,tab,simprocAttr,reduceCtorEq,reduceIte]
      refine fin_run ?_ (hK _ ?_)<;>clear hK<;>clear K
      ·(first|exact trivial|omega|(simp only [In64] at *; omega)|(simp [In64] at *; omega)|(simp_all; done)|skip)
      refine qa ?_
      refine hk_cond rfl (fun hC6=>?_) (fun hC6=>?_)
      ·(try simp only [nhs] at hC6)
       have hal:a < n:=by omega
       refine qh (qa (qm (ql (qm ?_))))
       refine hk_region fun K hK=>runs_eval tab_ok ?_
       simp only [ev0,evA,evB,evP,fl,gp,tab,simprocAttr,reduceCtorEq,reduceIte]
       refine fin_run trivial (hK _ ?_)<;>clear hK<;>clear K
       refine qa (ql ?_)
       refine hk_loop (ι:=Nat) (fun b=>⟨104,[(1,.ptr 0 0),(2,.ptr 1 0),(4,.p (.int .i64 a)),(5,.p (.int .i64 b))],[.own [.p (.int .i64 n),.p (.list (il m))],.own [.p (.int .i64 0),.p (.int .i64 0)]]⟩) (fun b=>b≤n∧∀ j,j < b→∀ c,c < n→op m n (op m n a j) c=op m n a (op m n j c)) (fun b=>n - b) 0 ⟨Nat.zero_le _,fun j hj=>by omega⟩ [0,1] (by simp only [leq,leA,ev0,evA,evB,evP,fl,gp,tab,simprocAttr,reduceCtorEq,reduceIte]<;>trivial) fun b hb=>?_
       obtain ⟨hb1,hb2⟩:=hb
       refine qm (qm ?_)
       refine hk_region fun K hK=>runs_eval tab_ok ?_
       simp only [ev0,evA,evB,evP,fl,gp,tab,simprocAttr,reduceCtorEq,reduceIte]
       refine fin_run ?_ (hK _ ?_)<;>clear hK<;>clear K
       ·(first|exact trivial|omega|(simp only [In64] at *; omega)|(simp [In64] at *; omega)|(simp_all; done)|skip)
       refine qa ?_
       refine hk_cond rfl (fun hC7=>?_) (fun hC7=>?_)
       ·(try simp only [nhs] at hC7)
        have hbl:b < n:=by omega
        refine qh (qa (qm (ql (qm ?_))))
        refine hk_region fun K hK=>runs_eval tab_ok ?_
        simp only [ev0,evA,evB,evP,fl,gp,tab,simprocAttr,reduceCtorEq,reduceIte]
        refine fin_run trivial (hK _ ?_)<;>clear hK<;>clear K
        refine qa (ql ?_)
        refine hk_loop (ι:=Nat) (fun c=>⟨104,[(1,.ptr 0 0),(2,.ptr 1 0),(4,.p (.int .i64 a)),(5,.p (.int .i64 b)),(6,.p (.int .i64 c))],[.own [.p (.int .i64 n),.p (.list (il m))],.own [.p (.int .i64 0),.p (.int .i64 0)]]⟩) (fun c=>c≤n∧∀ j,j < c→op m n (op m n a b) j=op m n a (op m n b j)) (fun c=>n - c) 0 ⟨Nat.zero_le _,fun j hj=>by omega⟩ [0,1] (by simp only [leq,leA,ev0,evA,evB,evP,fl,gp,tab,simprocAttr,reduceCtorEq,reduceIte]<;>trivial) fun c hc=>?_
        obtain ⟨hc1,hc2⟩:=hc
        refine qm (qm ?_)
        refine hk_region fun K hK=>runs_eval tab_ok ?_
        simp only [ev0,evA,evB,evP,fl,gp,tab,simprocAttr,reduceCtorEq,reduceIte]
        refine fin_run ?_ (hK _ ?_)<;>clear hK<;>clear K
        ·(first|exact trivial|omega|(simp only [In64] at *; omega)|(simp [In64] at *; omega)|(simp_all; done)|skip)
        refine qa ?_
        refine hk_cond rfl (fun hC8=>?_) (fun hC8=>?_)
        ·(try simp only [nhs] at hC8)
         have hcl:c < n:=by omega
         refine qh (qa (qm (ql (qm ?_))))
         refine hk_draw mixed (by kernel_rfl) fun K hK=>runs_eval tab_ok ?_
         simp only [ev0,evA,evB,evP,fl,gp,tab,simprocAttr,reduceCtorEq,reduceIte]
         refine fin_stop trivial (runs_call (m_c T hal hbl) rfl rfl rfl (by simp only [dstOk,Nat.reduceLT]) (by repeat (first|exact trivial|constructor)) (runs_eval tab_ok ?_))
         simp only [ev0,evA,evB,evP,fl,gp,tab,simprocAttr,reduceCtorEq,reduceIte]
         refine fin_stop trivial (runs_call (m_c T (T.lt hal hbl) hcl) rfl rfl rfl (by simp only [dstOk,Nat.reduceLT]) (by repeat (first|exact trivial|constructor)) (runs_eval tab_ok ?_))
         simp only [ev0,evA,evB,evP,fl,gp,tab,simprocAttr,reduceCtorEq,reduceIte]
         refine fin_stop trivial (runs_call (m_c T hbl hcl) rfl rfl rfl (by simp only [dstOk,Nat.reduceLT]) (by repeat (first|exact trivial|constructor)) (runs_eval tab_ok ?_))
         simp only [ev0,evA,evB,evP,fl,gp,tab,simprocAttr,reduceCtorEq,reduceIte]
         refine fin_stop trivial (runs_call (m_c T hal (T.lt hbl hcl)) rfl rfl rfl (by simp only [dstOk,Nat.reduceLT]) (by repeat (first|exact trivial|constructor)) (runs_eval tab_ok ?_))
         simp only [ev0,evA,evB,evP,fl,gp,tab,simprocAttr,reduceCtorEq,reduceIte]
         refine fin_run ?_ (hK _ ?_)<;>clear hK<;>clear K
         ·(first|exact trivial|omega|(simp only [In64] at *; omega)|(simp [In64] at *; omega)|(simp_all; done)|skip)
         refine qa ?_
         refine hk_cond rfl (fun hC9=>?_) (fun hC9=>?_)
         ·(try simp only [nhs] at hC9)
          refine qm ?_
          refine hk_region fun K hK=>runs_eval tab_ok ?_
          simp only [ev0,evA,evB,evP,fl,gp,tab,simprocAttr,reduceCtorEq,reduceIte]
          refine fin_stop trivial (runs_call (f_c 7 a) rfl rfl rfl (by simp only [dstOk,Nat.reduceLT]) (by repeat (first|exact trivial|constructor)) (runs_eval tab_ok ?_))
          simp only [ev0,evA,evB,evP,fl,gp,tab,simprocAttr,reduceCtorEq,reduceIte]
          refine fin_run ?_ (hK _ ?_)<;>clear hK<;>clear K
          ·(first|exact trivial|omega|(simp only [In64] at *; omega)|(simp [In64] at *; omega)|(simp_all; done)|skip)
          refine qa (qk (qe (qb (qb (qe (qe (qb (qb (qe (qe (qb (qb (qe (qb ?_))))))))))))))
          simp only [Tryd.results16,enA,ev0,evA,evB,evP,fl,gp,tab,simprocAttr,reduceCtorEq,reduceIte]
          all_goals (rw [gf_tab T,gf2_7 hC5 hal (fun h=>hC9 (by rw [h b hbl c hcl])) ha2]; simp)
         ·(try simp only [nhs] at hC9)
          refine qh (qd (qa ?_))
          refine hk_region fun K hK=>runs_eval tab_ok ?_
          simp only [ev0,evA,evB,evP,fl,gp,tab,simprocAttr,reduceCtorEq,reduceIte]
          refine fin_run ?_ (hK _ ?_)<;>clear hK<;>clear K
          ·(first|exact trivial|omega|(simp only [In64] at *; omega)|(simp [In64] at *; omega)|(simp_all; done)|skip)
          refine qa ?_
          refine ⟨c + 1,[0,1],⟨by omega,fun j hj=>?_⟩,by omega,?_⟩
          ·by_cases hj:j=c
           ·subst hj; omega
           ·exact hc2 j (by omega)
          ·simp only [leq,leA,ev0,evA,evB,evP,fl,gp,tab,simprocAttr,reduceCtorEq,reduceIte]<;>omega
        ·(try simp only [nhs] at hC8)
         refine qj (qc (qc (qf (qd (qa ?_)))))
         refine hk_region fun K hK=>runs_eval tab_ok ?_
         simp only [ev0,evA,evB,evP,fl,gp,tab,simprocAttr,reduceCtorEq,reduceIte]
         refine fin_run ?_ (hK _ ?_)<;>clear hK<;>clear K
         ·(first|exact trivial|omega|(simp only [In64] at *; omega)|(simp [In64] at *; omega)|(simp_all; done)|skip)
         refine qa ?_
         refine ⟨b + 1,[0,1],⟨by omega,fun j hj=>?_⟩,by omega,?_⟩
         ·by_cases hj:j=b
          ·subst hj; exact fun c' hc'=>hc2 c' (by omega)
          ·exact hb2 j (by omega)
         ·simp only [leq,leA,ev0,evA,evB,evP,fl,gp,tab,simprocAttr,reduceCtorEq,reduceIte]<;>omega
       ·(try simp only [nhs] at hC7)
        refine qj (qc (qc (qf (qd (qa ?_)))))
        refine hk_region fun K hK=>runs_eval tab_ok ?_
        simp only [ev0,evA,evB,evP,fl,gp,tab,simprocAttr,reduceCtorEq,reduceIte]
        refine fin_run ?_ (hK _ ?_)<;>clear hK<;>clear K
        ·(first|exact trivial|omega|(simp only [In64] at *; omega)|(simp [In64] at *; omega)|(simp_all; done)|skip)
        refine qa ?_
        refine ⟨a + 1,[0,1],⟨by omega,fun j hj=>?_⟩,by omega,?_⟩
        ·by_cases hj:j=a
         ·subst hj; exact fun c' hc'=>hb2 c' (by omega)
         ·exact ha2 j (by omega)
        ·simp only [leq,leA,ev0,evA,evB,evP,fl,gp,tab,simprocAttr,reduceCtorEq,reduceIte]<;>omega
      ·(try simp only [nhs] at hC6)
       refine qj (qc (qc (qf (qa (qm (qm ?_))))))
       refine hk_region fun K hK=>runs_eval tab_ok ?_
       simp only [ev0,evA,evB,evP,fl,gp,tab,simprocAttr,reduceCtorEq,reduceIte]
       refine fin_run trivial (hK _ ?_)<;>clear hK<;>clear K
       refine qa (ql ?_)
       refine hk_loop (ι:=Nat) (fun a=>⟨104,[(1,.ptr 0 0),(2,.ptr 1 0),(7,.p (.int .i64 a))],[.own [.p (.int .i64 n),.p (.list (il m))],.own [.p (.int .i64 0),.p (.int .i64 0)]]⟩) (fun a=>a≤n∧∀ j,j < a→¬ iI m n j < 0) (fun a=>n - a) 0 ⟨Nat.zero_le _,fun j hj=>by omega⟩ [0,1] (by simp only [leq,leA,ev0,evA,evB,evP,fl,gp,tab,simprocAttr,reduceCtorEq,reduceIte]<;>trivial) fun k hk=>?_
       obtain ⟨hk1,hk2⟩:=hk
       refine qm (qm ?_)
       refine hk_region fun K hK=>runs_eval tab_ok ?_
       simp only [ev0,evA,evB,evP,fl,gp,tab,simprocAttr,reduceCtorEq,reduceIte]
       refine fin_run ?_ (hK _ ?_)<;>clear hK<;>clear K
       ·(first|exact trivial|omega|(simp only [In64] at *; omega)|(simp [In64] at *; omega)|(simp_all; done)|skip)
       refine qa ?_
       refine hk_cond rfl (fun hC10=>?_) (fun hC10=>?_)
       ·(try simp only [nhs] at hC10)
        have hkl:k < n:=by omega
        refine qh (qa (qm (ql (qm ?_))))
        refine hk_region fun K hK=>runs_eval tab_ok ?_
        simp only [ev0,evA,evB,evP,fl,gp,tab,simprocAttr,reduceCtorEq,reduceIte]
        refine fin_stop trivial (runs_call (i_c T hkl) rfl rfl rfl (by simp only [dstOk,Nat.reduceLT]) (by repeat (first|exact trivial|constructor)) (runs_eval tab_ok ?_))
        simp only [ev0,evA,evB,evP,fl,gp,tab,simprocAttr,reduceCtorEq,reduceIte]
        refine fin_run ?_ (hK _ ?_)<;>clear hK<;>clear K
        ·(first|exact trivial|omega|(simp only [In64] at *; omega)|(simp [In64] at *; omega)|(simp_all; done)|skip)
        refine qa ?_
        refine hk_cond rfl (fun hC11=>?_) (fun hC11=>?_)
        ·(try simp only [nhs] at hC11)
         refine qm ?_
         refine hk_region fun K hK=>runs_eval tab_ok ?_
         simp only [ev0,evA,evB,evP,fl,gp,tab,simprocAttr,reduceCtorEq,reduceIte]
         refine fin_stop trivial (runs_call (f_c 4 k) rfl rfl rfl (by simp only [dstOk,Nat.reduceLT]) (by repeat (first|exact trivial|constructor)) (runs_eval tab_ok ?_))
         simp only [ev0,evA,evB,evP,fl,gp,tab,simprocAttr,reduceCtorEq,reduceIte]
         refine fin_run ?_ (hK _ ?_)<;>clear hK<;>clear K
         ·(first|exact trivial|omega|(simp only [In64] at *; omega)|(simp [In64] at *; omega)|(simp_all; done)|skip)
         refine qa (qk (qe (qb (qb (qe (qb ?_))))))
         simp only [Tryd.results16,enA,ev0,evA,evB,evP,fl,gp,tab,simprocAttr,reduceCtorEq,reduceIte]
         all_goals (rw [gf_tab T,gf2_4 hC5 (fun j hj=>ha2 j (by omega)) hkl hC11 hk2]; simp)
        ·(try simp only [nhs] at hC11)
         refine qh (qd (qa ?_))
         refine hk_region fun K hK=>runs_eval tab_ok ?_
         simp only [ev0,evA,evB,evP,fl,gp,tab,simprocAttr,reduceCtorEq,reduceIte]
         refine fin_run ?_ (hK _ ?_)<;>clear hK<;>clear K
         ·(first|exact trivial|omega|(simp only [In64] at *; omega)|(simp [In64] at *; omega)|(simp_all; done)|skip)
         refine qa ?_
         refine ⟨k + 1,[0,1],⟨by omega,fun j hj=>?_⟩,by omega,?_⟩
         ·by_cases hj:j=k
          ·subst hj; omega
          ·exact hk2 j (by omega)
         ·simp only [leq,leA,ev0,evA,evB,evP,fl,gp,tab,simprocAttr,reduceCtorEq,reduceIte]<;>omega
       ·(try simp only [nhs] at hC10)
        refine qj (qc (qc (qf (qa (qm ?_)))))
        refine hk_region fun K hK=>runs_eval tab_ok ?_
        simp only [ev0,evA,evB,evP,fl,gp,tab,simprocAttr,reduceCtorEq,reduceIte]
        refine fin_run ?_ (hK _ ?_)<;>clear hK<;>clear K
        ·(first|exact trivial|omega|(simp only [In64] at *; omega)|(simp [In64] at *; omega)|(simp_all; done)|skip)
        refine qa (qk ?_)
        simp only [Tryd.results16,enA,ev0,evA,evB,evP,fl,gp,tab,simprocAttr,reduceCtorEq,reduceIte]
        all_goals (rw [gf_tab T,gf2_0 hC5 (fun j hj=>ha2 j (by omega)) (fun j hj=>hk2 j (by omega))]; simp)
end Go.Proofs.YtboadfahlflmhaaDoor

/-
  Tables without fault are groups: plain laws, with no program in sight. Conditions: none.
-/
set_option linter.all false
namespace Go.Proofs.YtboadfahlflmhaaDoor
open Go.Pv

theorem isE_unique {m:List Int} {n a b:Nat} (ha:a < n) (hb:b < n) (h1:isE m n a) (h2:isE m n b):a=b:=by
 have e1:=(h1 b hb).1
 have e2:=(h2 a ha).2
 omega

theorem eI_cases (m:List Int) (n:Nat):(eI m n = -1∧∀ a,a < n→¬ isE m n a)∨∃ e,e < n∧isE m n e∧eI m n=(e:Nat):=by
 unfold eI
 cases h:fst' (fun a=>decide (isE m n a)) n with
 | none=>exact .inl ⟨rfl,fun a ha=>of_decide_eq_false (fst_spec0 h a ha)⟩
 | some e =>
  obtain ⟨h1,h2,_⟩:=fst_spec h
  exact .inr ⟨e,h1,of_decide_eq_true h2,rfl⟩
theorem eI_of {m:List Int} {n e:Nat} (he:e < n) (h:isE m n e):eI m n=(e:Nat):=by
 rcases eI_cases m n with ⟨_,h2⟩ | ⟨e',h1,h2,h3⟩
 ·exact absurd h (h2 e he)
 ·rw [h3,isE_unique he h1 h h2]

theorem iI_cases (m:List Int) (n a:Nat):(iI m n a = -1∧∀ b,b < n→¬ (((op m n a b:Nat):Int)=eI m n∧((op m n b a:Nat):Int)=eI m n)) ∨
  ∃ b,b < n∧((op m n a b:Nat):Int)=eI m n∧((op m n b a:Nat):Int)=eI m n∧iI m n a=(b:Nat):=by
 unfold iI
 cases h:fst' (fun b=>decide (((op m n a b:Nat):Int)=eI m n∧((op m n b a:Nat):Int)=eI m n)) n with
 | none=>exact .inl ⟨rfl,fun b hb=>of_decide_eq_false (fst_spec0 h b hb)⟩
 | some b =>
  obtain ⟨h1,h2,_⟩:=fst_spec h
  have h2:=of_decide_eq_true h2
  exact .inr ⟨b,h1,h2.1,h2.2,rfl⟩

/-- A row of numbers is a group's table. -/
def GT (N:Int) (m:List Int) (n e:Nat):Prop:=N=(n:Int)∧Tab n m∧Grp n (op m n) e

theorem gf_ok {N:Int} {m:List Int} (h:(gf N m).1=0):∃ n e,GT N m n e∧eI m n=(e:Nat):=by
 unfold gf at h
 by_cases h1:N < 1∨N > 60
 ·rw [if_pos h1] at h; simp at h
 rw [if_neg h1] at h
 obtain ⟨n,rfl⟩:=Int.eq_ofNat_of_zero_le (show 0≤N by omega)
 have hsq:=sq_int n
 by_cases h2:(m.length:Int)=(n:Int) * n
 ·rw [if_neg (by simpa using h2)] at h
  cases h3:fst' (bad n m) m.length with
  | some i=>rw [h3] at h; simp at h
  | none =>
   rw [h3] at h
   have hl:m.length=n * n:=by omega
   have T:Tab n m:=by
    refine ⟨by omega,by omega,hl,fun j hj=>?_⟩
    have:=of_decide_eq_false (fst_spec0 h3 j (by omega))
    omega
   simp only [Int.toNat_natCast] at h
   unfold gf2 at h
   by_cases h4:eI m n < 0
   ·rw [if_pos h4] at h; simp at h
   rw [if_neg h4] at h
   rcases eI_cases m n with ⟨h5,_⟩ | ⟨e,he,hE,heq⟩
   ·omega
   cases h6:fst' (fun a=>decide (¬ asc m n a)) n with
   | some a=>rw [h6] at h; simp at h
   | none =>
    rw [h6] at h
    simp only at h
    have hasc:∀ a,a < n→asc m n a:=fun a ha=>by
     have:=of_decide_eq_false (fst_spec0 h6 a ha)
     exact Classical.not_not.1 this
    cases h7:fst' (fun a=>decide (iI m n a < 0)) n with
    | some a=>rw [h7] at h; simp at h
    | none =>
     have hinv:∀ a,a < n→¬ iI m n a < 0:=fun a ha=>of_decide_eq_false (fst_spec0 h7 a ha)
     refine ⟨n,e,⟨rfl,T,⟨by omega,fun a b ha hb=>T.lt ha hb,he,fun a ha=>(hE a ha).1,fun a ha=>(hE a ha).2,fun a b c ha hb hc=>hasc a ha b hb c hc,fun a ha=>?_⟩⟩,heq⟩
     rcases iI_cases m n a with ⟨h8,_⟩ | ⟨b,hb,h8,h9,_⟩
     ·have:=hinv a ha; omega
     ·exact ⟨b,hb,by omega,by omega⟩
 ·rw [if_pos h2] at h; simp at h

theorem GT.one {N:Int} {m:List Int} {n e:Nat} (h:GT N m n e):isE m n e:=fun b hb=>⟨h.2.2.one_l b hb,h.2.2.one_r b hb⟩
theorem GT.eI {N:Int} {m:List Int} {n e:Nat} (h:GT N m n e):eI m n=(e:Nat):=eI_of h.2.2.el h.one
theorem GT.iI {N:Int} {m:List Int} {n e a:Nat} (h:GT N m n e) (ha:a < n):iI m n a=(iv n (op m n) e a:Nat):=by
 have G:=h.2.2
 rcases iI_cases m n a with ⟨_,h2⟩ | ⟨b,hb,h8,h9,h10⟩
 ·exact absurd ⟨by rw [h.eI,G.mul_iv ha],by rw [h.eI,G.iv_mul ha]⟩ (h2 _ (G.iv_lt ha))
 ·rw [h10]
  rw [h.eI] at h8
  rw [G.iv_unique ha hb (.inl (by omega))]

theorem gf_of {N:Int} {m:List Int} {n e:Nat} (h:GT N m n e):gf N m=(0,0):=by
 obtain ⟨rfl,T,G⟩:=h
 have h' : GT n m n e:=⟨rfl,T,G⟩
 rw [gf_tab T,gf2_0 (by rw [h'.eI]; omega) (fun a ha b hb c hc=>G.assoc a b c ha hb hc) fun a ha=>by rw [h'.iI ha]; omega]

/-- In what is finite, who has an inverse at the right has it at the left too. -/
theorem right_inv {n:Nat} {f:Nat→Nat→Nat} {e:Nat} (hcl:∀ a b,a < n→b < n→f a b < n) (he:e < n) (hl:∀ a,a < n→f e a=a) (hr:∀ a,a < n→f a e=a)
  (has:∀ a b c,a < n→b < n→c < n→f (f a b) c=f a (f b c)) {a b:Nat} (ha:a < n) (hb:b < n) (h:f a b=e):f b a=e:=by
 obtain ⟨c,hc,h1⟩:=inj_onto (f:=f b) (fun i hi=>hcl b i hb hi) (fun i j hi hj hij=>by
  have h2:f a (f b i)=f a (f b j):=by rw [hij]
  rwa [← has a b i ha hb hi,← has a b j ha hb hj,h,hl i hi,hl j hj] at h2) he
 have:a=c:=by
  have h2:=has a b c ha hb hc
  rw [h,h1,hl c hc,hr a ha] at h2
  exact h2.symm
 rw [this]; exact h1

end Go.Proofs.YtboadfahlflmhaaDoor

/-
  Walks: the document's words of groups: things, orders, powers. Conditions: none.
-/
set_option linter.all false
namespace Go.Proofs.YtboadfahlflmhaaDoor
open Go.Pv

/-! ### Things -/

def okT (N:Int) (l:List Int) (i:Nat):Prop:=¬ (l.getD i 0 < 0∨l.getD i 0 ≥ N)
instance (N:Int) (l:List Int) (i:Nat):Decidable (okT N l i):=by unfold okT; infer_instance

/-- The fault of a group and things of it. -/
def tf (N:Int) (m l:List Int):Int × Int:=
 if ¬ (gf N m).1=0 then gf N m
 else match fst' (fun i=>decide (¬ okT N l i)) l.length with
  | some i=>(3,(i:Int) + 1)
  | none=>(0,0)

/-! ### Orders, powers -/

def abel (m:List Int) (n:Nat):Prop:=∀ a,a < n→∀ b,b < n→op m n a b=op m n b a
instance (m:List Int) (n:Nat):Decidable (abel m n):=by unfold abel; infer_instance

theorem commutes_c {n:Nat} {m:List Int} (T:Tab n m):FnC Tryd.prog 117 [gp n m] (.bool (decide (abel m n))):=by
 have hb:=T.big
 refine fnc_of tab_ok Tryd.func117 rfl (by kernel_rfl) (by rw [Tryd.ntmps117]; exact Nat.le_add_left 1 _) ?_; rw [Tryd.ntmps117]
 refine qm ?_
 refine hk_region fun K hK=>runs_eval tab_ok ?_
 simp only [ev0,evA,evB,evP,fl,gp,tab,simprocAttr,reduceCtorEq,reduceIte]
 refine fin_run ?_ (hK _ ?_)<;>clear hK<;>clear K
 ·(first|exact trivial|omega|(simp only [In64] at *; omega)|(simp [In64] at *; omega)|(simp_all; done)|skip)
 refine qa (qm (qm ?_))
 refine hk_region fun K hK=>runs_eval tab_ok ?_
 simp only [ev0,evA,evB,evP,fl,gp,tab,simprocAttr,reduceCtorEq,reduceIte]
 refine fin_run trivial (hK _ ?_)<;>clear hK<;>clear K
 refine qa (ql ?_)
 refine hk_loop (ι:=Nat) (fun i=>⟨26,[(1,.ptr 0 0),(3,.p (.int .i64 i))],[.own [.p (.int .i64 n),.p (.list (il m))]]⟩) (fun i=>i≤n∧∀ j,j < i→∀ b,b < n→op m n j b=op m n b j) (fun i=>n - i) 0 ⟨Nat.zero_le _,fun j hj=>by omega⟩ [0] (by simp only [leq,leA,ev0,evA,evB,evP,fl,gp,tab,simprocAttr,reduceCtorEq,reduceIte]<;>trivial) fun i hi=>?_
 obtain ⟨hi1,hi2⟩:=hi
 refine qm (qm ?_)
 refine hk_region fun K hK=>runs_eval tab_ok ?_
 simp only [ev0,evA,evB,evP,fl,gp,tab,simprocAttr,reduceCtorEq,reduceIte]
 refine fin_run ?_ (hK _ ?_)<;>clear hK<;>clear K
 ·(first|exact trivial|omega|(simp only [In64] at *; omega)|(simp [In64] at *; omega)|(simp_all; done)|skip)
 refine qa ?_
 refine hk_cond rfl (fun hC1=>?_) (fun hC1=>?_)
 ·(try simp only [nhs] at hC1)
  have hlt:i < n:=by omega
  refine qh (qa (qm (ql (qm ?_))))
  refine hk_region fun K hK=>runs_eval tab_ok ?_
  simp only [ev0,evA,evB,evP,fl,gp,tab,simprocAttr,reduceCtorEq,reduceIte]
  refine fin_run trivial (hK _ ?_)<;>clear hK<;>clear K
  refine qa (ql ?_)
  refine hk_loop (ι:=Nat) (fun b=>⟨26,[(1,.ptr 0 0),(3,.p (.int .i64 i)),(4,.p (.int .i64 b))],[.own [.p (.int .i64 n),.p (.list (il m))]]⟩) (fun b=>b≤n∧∀ c,c < b→op m n i c=op m n c i) (fun b=>n - b) 0 ⟨Nat.zero_le _,fun j hj=>by omega⟩ [0] (by simp only [leq,leA,ev0,evA,evB,evP,fl,gp,tab,simprocAttr,reduceCtorEq,reduceIte]<;>trivial) fun b hb=>?_
  obtain ⟨hb1,hb2⟩:=hb
  refine qm (qm ?_)
  refine hk_region fun K hK=>runs_eval tab_ok ?_
  simp only [ev0,evA,evB,evP,fl,gp,tab,simprocAttr,reduceCtorEq,reduceIte]
  refine fin_run ?_ (hK _ ?_)<;>clear hK<;>clear K
  ·(first|exact trivial|omega|(simp only [In64] at *; omega)|(simp [In64] at *; omega)|(simp_all; done)|skip)
  refine qa ?_
  refine hk_cond rfl (fun hC2=>?_) (fun hC2=>?_)
  ·(try simp only [nhs] at hC2)
   have hbl:b < n:=by omega
   refine qh (qa (qm (ql (qm ?_))))
   refine hk_draw mixed (by kernel_rfl) fun K hK=>runs_eval tab_ok ?_
   simp only [ev0,evA,evB,evP,fl,gp,tab,simprocAttr,reduceCtorEq,reduceIte]
   refine fin_stop trivial (runs_call (m_c T hlt hbl) rfl rfl rfl (by simp only [dstOk,Nat.reduceLT]) (by repeat (first|exact trivial|constructor)) (runs_eval tab_ok ?_))
   simp only [ev0,evA,evB,evP,fl,gp,tab,simprocAttr,reduceCtorEq,reduceIte]
   refine fin_stop trivial (runs_call (m_c T hbl hlt) rfl rfl rfl (by simp only [dstOk,Nat.reduceLT]) (by repeat (first|exact trivial|constructor)) (runs_eval tab_ok ?_))
   simp only [ev0,evA,evB,evP,fl,gp,tab,simprocAttr,reduceCtorEq,reduceIte]
   refine fin_run ?_ (hK _ ?_)<;>clear hK<;>clear K
   ·(first|exact trivial|omega|(simp only [In64] at *; omega)|(simp [In64] at *; omega)|(simp_all; done)|skip)
   refine qa ?_
   refine hk_cond rfl (fun hC3=>?_) (fun hC3=>?_)
   ·(try simp only [nhs] at hC3)
    refine qm ?_
    refine hk_region fun K hK=>runs_eval tab_ok ?_
    simp only [ev0,evA,evB,evP,fl,gp,tab,simprocAttr,reduceCtorEq,reduceIte]
    refine fin_run trivial (hK _ ?_)<;>clear hK<;>clear K
    refine qa (qk (qe (qb (qb (qe (qe (qb (qb (qe (qb ?_))))))))))
    simp only [Tryd.results117,enA,ev0,evA,evB,evP,fl,gp,tab,simprocAttr,reduceCtorEq,reduceIte]
    all_goals (simp only [decide_eq_false_iff_not,eq_comm (a:=false)]; exact fun h=>hC3 (by rw [h i hlt b hbl]))
   ·(try simp only [nhs] at hC3)
    refine qh (qd (qa ?_))
    refine hk_region fun K hK=>runs_eval tab_ok ?_
    simp only [ev0,evA,evB,evP,fl,gp,tab,simprocAttr,reduceCtorEq,reduceIte]
    refine fin_run ?_ (hK _ ?_)<;>clear hK<;>clear K
    ·(first|exact trivial|omega|(simp only [In64] at *; omega)|(simp [In64] at *; omega)|(simp_all; done)|skip)
    refine qa ?_
    refine ⟨b + 1,[0],⟨by omega,fun j hj=>?_⟩,by omega,?_⟩
    ·by_cases hj:j=b
     ·subst hj; omega
     ·exact hb2 j (by omega)
    ·simp only [leq,leA,ev0,evA,evB,evP,fl,gp,tab,simprocAttr,reduceCtorEq,reduceIte]<;>omega
  ·(try simp only [nhs] at hC2)
   refine qj (qc (qc (qf (qd (qa ?_)))))
   refine hk_region fun K hK=>runs_eval tab_ok ?_
   simp only [ev0,evA,evB,evP,fl,gp,tab,simprocAttr,reduceCtorEq,reduceIte]
   refine fin_run ?_ (hK _ ?_)<;>clear hK<;>clear K
   ·(first|exact trivial|omega|(simp only [In64] at *; omega)|(simp [In64] at *; omega)|(simp_all; done)|skip)
   refine qa ?_
   refine ⟨i + 1,[0],⟨by omega,fun j hj=>?_⟩,by omega,?_⟩
   ·by_cases hj:j=i
    ·subst hj; exact fun c' hc'=>hb2 c' (by omega)
    ·exact hi2 j (by omega)
   ·simp only [leq,leA,ev0,evA,evB,evP,fl,gp,tab,simprocAttr,reduceCtorEq,reduceIte]<;>omega
 ·(try simp only [nhs] at hC1)
  refine qj (qc (qc (qf (qa (qm ?_)))))
  refine hk_region fun K hK=>runs_eval tab_ok ?_
  simp only [ev0,evA,evB,evP,fl,gp,tab,simprocAttr,reduceCtorEq,reduceIte]
  refine fin_run trivial (hK _ ?_)<;>clear hK<;>clear K
  refine qa (qk ?_)
  simp only [Tryd.results117,enA,ev0,evA,evB,evP,fl,gp,tab,simprocAttr,reduceCtorEq,reduceIte]
  all_goals (simp only [decide_eq_true_eq,eq_comm (a:=true)]; exact fun a ha=>hi2 a (by omega))
end Go.Proofs.YtboadfahlflmhaaDoor

/-
  Walks: rows, groups, numbers: the document's and the laws' small words. Conditions: none.
-/
set_option linter.all false
namespace Go.Proofs.YtboadfahlflmhaaDoor
open Go.Pv

end Go.Proofs.YtboadfahlflmhaaDoor

/-
  Walks: the program's words of groups: faults, the one, inverses. Conditions: none.
-/
set_option linter.all false
namespace Go.Proofs.YtboadfahlflmhaaDoor
open Go.Pv

theorem fault_c (c a:Int):FnC Tryd.prog 126 [.int .i64 c,.int .i64 a] (fl (c,a)):=by
 refine fnc_of tab_ok Tryd.func126 rfl (by kernel_rfl) (by rw [Tryd.ntmps126]; exact Nat.le_add_left 2 _) ?_; rw [Tryd.ntmps126]
 refine qm ?_
 refine hk_region fun K hK=>runs_eval tab_ok ?_
 simp only [ev0,evA,evB,evP,fl,gp,tab,simprocAttr,reduceCtorEq,reduceIte]
 refine fin_run ?_ (hK _ ?_)<;>clear hK<;>clear K
 ·(first|exact trivial|omega|(simp only [In64] at *; omega)|(simp [In64] at *; omega)|(simp_all; done)|skip)
 refine qa (qm ?_)
 refine hk_region fun K hK=>runs_eval tab_ok ?_
 simp only [ev0,evA,evB,evP,fl,gp,tab,simprocAttr,reduceCtorEq,reduceIte]
 refine fin_run ?_ (hK _ ?_)<;>clear hK<;>clear K
 ·(first|exact trivial|omega|(simp only [In64] at *; omega)|(simp [In64] at *; omega)|(simp_all; done)|skip)
 refine qa (qk ?_)
 simp only [Tryd.results126,enA,ev0,evA,evB,evP,fl,gp,tab,simprocAttr,reduceCtorEq,reduceIte]
 all_goals (rfl)

theorem of_c {n:Nat} {m:List Int} (T:Tab n m) {a b:Nat} (ha:a < n) (hb:b < n):FnC Tryd.prog 108 [gp n m,.int .i64 a,.int .i64 b] (.int .i64 (op m n a b:Nat)):=by
 have h1:=at_lt ha hb
 have h2:=sq_le T.big
 have h3:=T.len
 have hc:(a:Int) * (n:Int)=((a * n:Nat):Int):=(Int.natCast_mul a n).symm
 have hv:=T.val ha hb
 refine fnc_of tab_ok Tryd.func108 rfl (by kernel_rfl) (by rw [Tryd.ntmps108]; exact Nat.le_add_left 3 _) ?_; rw [Tryd.ntmps108]
 refine qm ?_
 refine hk_region fun K hK=>runs_eval tab_ok ?_
 simp only [ev0,evA,evB,evP,fl,gp,tab,simprocAttr,reduceCtorEq,reduceIte]
 refine fin_run ?_ (hK _ ?_)<;>clear hK<;>clear K
 ·(first|exact trivial|omega|(simp only [In64] at *; omega)|(simp [In64] at *; omega)|(simp_all; done)|skip)
 refine qa (qm ?_)
 refine hk_region fun K hK=>runs_eval tab_ok ?_
 simp only [ev0,evA,evB,evP,fl,gp,tab,simprocAttr,reduceCtorEq,reduceIte,at_nat,il_get (show a * n + b < m.length by omega),hv]
 refine fin_run ?_ (hK _ ?_)<;>clear hK<;>clear K
 ·rw [hc]; simp only [In64]; omega
 refine qa (qk ?_)
 simp only [Tryd.results108,enA,ev0,evA,evB,evP,fl,gp,tab,simprocAttr,reduceCtorEq,reduceIte]
 all_goals (rfl)

def ix (l:List Int) (x:Int):Int:=match fst' (fun i=>decide (l.getD i 0=x)) l.length with | some i=>(i:Int) | none=>-1

theorem index_c (l:List Int) (x:Int) (hl:l.length≤1000000000000):FnC Tryd.prog 122 [.list (il l),.int .i64 x] (.int .i64 (ix l x)):=by
 refine fnc_of tab_ok Tryd.func122 rfl (by kernel_rfl) (by rw [Tryd.ntmps122]; exact Nat.le_add_left 2 _) ?_; rw [Tryd.ntmps122]
 refine qm ?_
 refine hk_region fun K hK=>runs_eval tab_ok ?_
 simp only [ev0,evA,evB,evP,fl,gp,tab,simprocAttr,reduceCtorEq,reduceIte]
 refine fin_run trivial (hK _ ?_)<;>clear hK<;>clear K
 refine qa (qm (qm ?_))
 refine hk_region fun K hK=>runs_eval tab_ok ?_
 simp only [ev0,evA,evB,evP,fl,gp,tab,simprocAttr,reduceCtorEq,reduceIte]
 refine fin_run trivial (hK _ ?_)<;>clear hK<;>clear K
 refine qa (ql ?_)
 refine hk_loop (ι:=Nat) (fun i=>⟨19,[(0,.p (.list (il l))),(1,.p (.int .i64 x)),(7,.p (.int .i64 l.length)),(8,.p (.int .i64 i))],[]⟩) (fun i=>i≤l.length∧∀ j,j < i→¬ l.getD j 0=x) (fun i=>l.length - i) 0 ⟨Nat.zero_le _,fun j hj=>by omega⟩ [] (by simp only [leq,leA,ev0,evA,evB,evP,fl,gp,tab,simprocAttr,reduceCtorEq,reduceIte]<;>trivial) fun i hi=>?_
 obtain ⟨hi1,hi2⟩:=hi
 refine qm ?_
 refine hk_region fun K hK=>runs_eval tab_ok ?_
 simp only [ev0,evA,evB,evP,fl,gp,tab,simprocAttr,reduceCtorEq,reduceIte]
 refine fin_run trivial (hK _ ?_)<;>clear hK<;>clear K
 refine qa (qm ?_)
 refine hk_cond rfl (fun hC1=>?_) (fun hC1=>?_)
 ·(try simp only [nhs] at hC1)
  have hlt:i < l.length:=by omega
  refine qh (qa (qm (ql (qm ?_))))
  refine hk_region fun K hK=>runs_eval tab_ok ?_
  simp only [ev0,evA,evB,evP,fl,gp,tab,simprocAttr,reduceCtorEq,reduceIte]
  refine fin_run trivial (hK _ ?_)<;>clear hK<;>clear K
  refine qa (qm ?_)
  refine hk_region fun K hK=>runs_eval tab_ok ?_
  simp only [ev0,evA,evB,evP,fl,gp,tab,simprocAttr,reduceCtorEq,reduceIte,il_get hlt]
  refine fin_run ?_ (hK _ ?_)<;>clear hK<;>clear K
  ·(first|exact trivial|omega|(simp only [In64] at *; omega)|(simp [In64] at *; omega)|(simp_all; done)|skip)
  refine qa ?_
  refine hk_cond rfl (fun hC2=>?_) (fun hC2=>?_)
  ·(try simp only [nhs] at hC2)
   refine qm ?_
   refine hk_region fun K hK=>runs_eval tab_ok ?_
   simp only [ev0,evA,evB,evP,fl,gp,tab,simprocAttr,reduceCtorEq,reduceIte]
   refine fin_run trivial (hK _ ?_)<;>clear hK<;>clear K
   refine qa (qk (qe (qb (qb (qe (qb ?_))))))
   simp only [Tryd.results122,enA,ev0,evA,evB,evP,fl,gp,tab,simprocAttr,reduceCtorEq,reduceIte]
   all_goals (unfold ix; rw [fst_some hlt (decide_eq_true hC2.symm) fun j hj=>decide_eq_false (hi2 j hj)])
  ·(try simp only [nhs] at hC2)
   refine qh (qd (qa ?_))
   refine hk_region fun K hK=>runs_eval tab_ok ?_
   simp only [ev0,evA,evB,evP,fl,gp,tab,simprocAttr,reduceCtorEq,reduceIte]
   refine fin_run ?_ (hK _ ?_)<;>clear hK<;>clear K
   ·(first|exact trivial|omega|(simp only [In64] at *; omega)|(simp [In64] at *; omega)|(simp_all; done)|skip)
   refine qa ?_
   refine ⟨i + 1,[],⟨by omega,fun j hj=>?_⟩,by omega,?_⟩
   ·by_cases hj:j=i
    ·subst hj; exact fun h=>hC2 h.symm
    ·exact hi2 j (by omega)
   ·simp only [leq,leA,ev0,evA,evB,evP,fl,gp,tab,simprocAttr,reduceCtorEq,reduceIte]<;>first|trivial|omega
 ·(try simp only [nhs] at hC1)
  refine qj (qc (qc (qf (qa (qm ?_)))))
  refine hk_region fun K hK=>runs_eval tab_ok ?_
  simp only [ev0,evA,evB,evP,fl,gp,tab,simprocAttr,reduceCtorEq,reduceIte]
  refine fin_run trivial (hK _ ?_)<;>clear hK<;>clear K
  refine qa (qk ?_)
  simp only [Tryd.results122,enA,ev0,evA,evB,evP,fl,gp,tab,simprocAttr,reduceCtorEq,reduceIte]
  all_goals (unfold ix; rw [fst_none fun j hj=>decide_eq_false (hi2 j (by omega))])

theorem ix_mem (l:List Int) (x:Int):ix l x ≥ 0↔∃ i,i < l.length∧l.getD i 0=x:=by
 unfold ix
 cases h:fst' (fun i=>decide (l.getD i 0=x)) l.length with
 | none =>
  constructor
  ·intro h; simp at h
  ·rintro ⟨i,hi,e⟩
   exact absurd e (of_decide_eq_false (fst_spec0 h i hi))
 | some i =>
  obtain ⟨h1,h2,_⟩:=fst_spec h
  exact ⟨fun _=>⟨i,h1,of_decide_eq_true h2⟩,fun _=>by simp⟩

theorem contains_c (l:List Int) (x:Int) (hl:l.length≤1000000000000):FnC Tryd.prog 127 [.list (il l),.int .i64 x] (.bool (decide (ix l x ≥ 0))):=by
 refine fnc_of tab_ok Tryd.func127 rfl (by kernel_rfl) (by rw [Tryd.ntmps127]; exact Nat.le_add_left 2 _) ?_; rw [Tryd.ntmps127]
 refine qm ?_
 refine hk_region fun K hK=>runs_eval tab_ok ?_
 simp only [ev0,evA,evB,evP,fl,gp,tab,simprocAttr,reduceCtorEq,reduceIte]
 refine fin_run trivial (hK _ ?_)<;>clear hK<;>clear K
 refine qa (qm ?_)
 refine hk_region fun K hK=>runs_eval tab_ok ?_
 simp only [ev0,evA,evB,evP,fl,gp,tab,simprocAttr,reduceCtorEq,reduceIte]
 refine fin_stop trivial (runs_call (index_c l x hl) rfl rfl rfl (by simp only [dstOk,Nat.reduceLT]) (by repeat (first|exact trivial|constructor)) (runs_eval tab_ok ?_))
 simp only [ev0,evA,evB,evP,fl,gp,tab,simprocAttr,reduceCtorEq,reduceIte]
 refine fin_run trivial (hK _ ?_)<;>clear hK<;>clear K
 refine qa (qk ?_)
 simp only [Tryd.results127,enA,ev0,evA,evB,evP,fl,gp,tab,simprocAttr,reduceCtorEq,reduceIte]
 all_goals ((first|exact rfl|exact ⟨rfl,rfl⟩|exact ⟨rfl,rfl,rfl⟩|exact ⟨trivial,rfl⟩|exact ⟨Nat.le_refl _,rfl⟩|trivial|(simp; done)))

/-- A row of the table. -/
def row (m:List Int) (n a:Nat):List Int:=(m.drop (a * n)).take n

theorem row_len {m:List Int} {n a:Nat} (T:Tab n m) (ha:a < n):(row m n a).length=n:=by
 have:(a + 1) * n≤n * n:=Nat.mul_le_mul_right _ ha
 rw [Nat.add_mul,Nat.one_mul] at this
 have:=T.len
 simp [row]; omega
theorem row_get {m:List Int} {n a b:Nat} (T:Tab n m) (ha:a < n) (hb:b < n):(row m n a).getD b 0=((op m n a b:Nat):Int):=by
 rw [← T.val ha hb]
 simp only [row,List.getD,List.getElem?_take,if_pos hb,List.getElem?_drop]
theorem row_ix {m:List Int} {n a:Nat} (T:Tab n m) (ha:a < n) (x:Int):ix (row m n a) x ≥ 0↔∃ b,b < n∧((op m n a b:Nat):Int)=x:=by
 rw [ix_mem,row_len T ha]
 constructor
 ·rintro ⟨b,hb,e⟩; exact ⟨b,hb,by rw [← row_get T ha hb]; exact e⟩
 ·rintro ⟨b,hb,e⟩; exact ⟨b,hb,by rw [row_get T ha hb]; exact e⟩

/-- The last that is the one, among so many; -1. -/
def oneI (m:List Int) (n:Nat):Nat→Int
 | 0=>-1
 | i + 1=>if isE m n i then (i:Int) else oneI m n i

theorem oneI_no {m:List Int} {n:Nat} (h:∀ a,a < n→¬ isE m n a):∀ i,i≤n→oneI m n i = -1
 | 0,_=>rfl
 | i + 1,hi=>by simp only [oneI]; rw [if_neg (h i (by omega)),oneI_no h i (by omega)]
theorem oneI_yes {m:List Int} {n e:Nat} (he:e < n) (h:isE m n e):∀ i,i≤n→e < i→oneI m n i=(e:Nat)
 | 0,_,h2=>by omega
 | i + 1,hi,h2=>by
  simp only [oneI]
  by_cases hE:isE m n i
  ·rw [if_pos hE,isE_unique he (by omega) h hE]
  ·rw [if_neg hE]
   have:e ≠ i:=fun h'=>hE (h' ▸ h)
   exact oneI_yes he h i (by omega) (by omega)
theorem oneI_eI (m:List Int) (n:Nat):oneI m n n=eI m n:=by
 rcases eI_cases m n with ⟨h1,h2⟩ | ⟨e,he,h1,h2⟩
 ·rw [h1,oneI_no h2 n (Nat.le_refl _)]
 ·rw [h2,oneI_yes he h1 n (Nat.le_refl _) he]

/-- The program's test of an inverse, and the document's. -/
theorem inv_test {m:List Int} {n a:Nat} (T:Tab n m) (he:¬ eI m n < 0) (hs:∀ a,a < n→asc m n a) (ha:a < n):ix (row m n a) (eI m n) ≥ 0↔¬ iI m n a < 0:=by
 rw [row_ix T ha]
 rcases eI_cases m n with ⟨h1,_⟩ | ⟨e,hel,hE,heq⟩
 ·omega
 constructor
 ·rintro ⟨b,hb,h⟩ h2
  rcases iI_cases m n a with ⟨_,h3⟩ | ⟨b',_,_,_,h4⟩
  ·refine h3 b hb ⟨h,?_⟩
   rw [heq] at h ⊢
   have:=right_inv (f:=op m n) (fun a b ha hb=>T.lt ha hb) hel (fun a ha=>(hE a ha).1) (fun a ha=>(hE a ha).2) (fun a b c ha hb hc=>hs a ha b hb c hc) ha hb (by omega)
   omega
  ·omega
 ·intro h
  rcases iI_cases m n a with ⟨h3,_⟩ | ⟨b,hb,h4,_,_⟩
  ·omega
  ·exact ⟨b,hb,h4⟩

theorem lo_nat (a n:Nat):((a:Int) * (n:Int)).toNat=a * n:=by
 rw [← Int.natCast_mul]; rfl
theorem hi_nat (a n:Nat):(((a:Int) + 1) * (n:Int)).toNat=(a + 1) * n:=by
 have:((a:Int) + 1) * (n:Int)=(((a + 1) * n:Nat):Int):=by rw [Int.natCast_mul]; rfl
 rw [this]; rfl
theorem hi_sub (a n:Nat):(a + 1) * n - a * n=n:=by rw [Nat.add_mul,Nat.one_mul]; omega

set_option maxHeartbeats 1000000 in
theorem check_c (N:Int) (m:List Int) (hm:m.length≤1000000000000000):FnC Tryd.prog 76 [gp N m] (fl (gf N m)):=by
 refine fnc_of tab_ok Tryd.func76 rfl (by kernel_rfl) (by rw [Tryd.ntmps76]; exact Nat.le_add_left 1 _) ?_; rw [Tryd.ntmps76]
 refine qm ?_
 refine hk_region fun K hK=>runs_eval tab_ok ?_
 simp only [ev0,evA,evB,evP,fl,gp,tab,simprocAttr,reduceCtorEq,reduceIte]
 refine fin_run ?_ (hK _ ?_)<;>clear hK<;>clear K
 ·(first|exact trivial|omega|(simp only [In64] at *; omega)|(simp [In64] at *; omega)|(simp_all; done)|skip)
 refine qa (qm (qm ?_))
 by_cases g1a:N < 1
 ·refine hk_region fun K hK=>runs_eval tab_ok ?_
  simp only [ev0,evA,evB,evP,fl,gp,tab,simprocAttr,reduceCtorEq,reduceIte,decide_eq_true g1a]
  refine fin_run ?_ (hK _ ?_)<;>clear hK<;>clear K
  ·(first|exact trivial|omega|(simp only [In64] at *; omega)|(simp [In64] at *; omega)|(simp_all; done)|skip)
  refine qa ?_
  refine hk_cond rfl (fun hC1=>?_) (fun hC1=>?_)
  ·refine qm ?_
   refine hk_region fun K hK=>runs_eval tab_ok ?_
   simp only [ev0,evA,evB,evP,fl,gp,tab,simprocAttr,reduceCtorEq,reduceIte]
   refine fin_stop trivial (runs_call (fault_c 2 0) rfl rfl rfl (by simp only [dstOk,Nat.reduceLT]) (by repeat (first|exact trivial|constructor)) (runs_eval tab_ok ?_))
   simp only [ev0,evA,evB,evP,fl,gp,tab,simprocAttr,reduceCtorEq,reduceIte]
   refine fin_run ?_ (hK _ ?_)<;>clear hK<;>clear K
   ·(first|exact trivial|omega|(simp only [In64] at *; omega)|(simp [In64] at *; omega)|(simp_all; done)|skip)
   refine qa (qk (qb ?_))
   simp only [Tryd.results76,enA,ev0,evA,evB,evP,fl,gp,tab,simprocAttr,reduceCtorEq,reduceIte]
   all_goals (unfold gf; rw [if_pos (.inl g1a)]; simp)
  ·cases hC1
 ·refine hk_region fun K hK=>runs_eval tab_ok ?_
  simp only [ev0,evA,evB,evP,fl,gp,tab,simprocAttr,reduceCtorEq,reduceIte,decide_eq_false g1a]
  refine fin_run ?_ (hK _ ?_)<;>clear hK<;>clear K
  ·(first|exact trivial|omega|(simp only [In64] at *; omega)|(simp [In64] at *; omega)|(simp_all; done)|skip)
  refine qa ?_
  refine hk_cond rfl (fun hC1=>?_) (fun hC1=>?_)
  ·(try simp only [nhs] at hC1)
   refine qm ?_
   refine hk_region fun K hK=>runs_eval tab_ok ?_
   simp only [ev0,evA,evB,evP,fl,gp,tab,simprocAttr,reduceCtorEq,reduceIte]
   refine fin_stop trivial (runs_call (fault_c 2 0) rfl rfl rfl (by simp only [dstOk,Nat.reduceLT]) (by repeat (first|exact trivial|constructor)) (runs_eval tab_ok ?_))
   simp only [ev0,evA,evB,evP,fl,gp,tab,simprocAttr,reduceCtorEq,reduceIte]
   refine fin_run ?_ (hK _ ?_)<;>clear hK<;>clear K
   ·(first|exact trivial|omega|(simp only [In64] at *; omega)|(simp [In64] at *; omega)|(simp_all; done)|skip)
   refine qa (qk (qb ?_))
   simp only [Tryd.results76,enA,ev0,evA,evB,evP,fl,gp,tab,simprocAttr,reduceCtorEq,reduceIte]
   all_goals (unfold gf; rw [if_pos (.inr hC1)]; simp)
  ·(try simp only [nhs] at hC1)
   obtain ⟨n,rfl⟩:=Int.eq_ofNat_of_zero_le (show 0≤N by omega)
   have hnn:=sq_int n
   have hsq:=sq_le (show n≤60 by omega)
   refine qh (qa (qm (qm ?_)))
   refine hk_region fun K hK=>runs_eval tab_ok ?_
   simp only [ev0,evA,evB,evP,fl,gp,tab,simprocAttr,reduceCtorEq,reduceIte]
   refine fin_run ?_ (hK _ ?_)<;>clear hK<;>clear K
   ·simp only [In64]; omega
   refine qa ?_
   refine hk_cond rfl (fun hC2=>?_) (fun hC2=>?_)
   ·(try simp only [nhs] at hC2)
    refine qm ?_
    refine hk_region fun K hK=>runs_eval tab_ok ?_
    simp only [ev0,evA,evB,evP,fl,gp,tab,simprocAttr,reduceCtorEq,reduceIte]
    refine fin_stop trivial (runs_call (fault_c 8 0) rfl rfl rfl (by simp only [dstOk,Nat.reduceLT]) (by repeat (first|exact trivial|constructor)) (runs_eval tab_ok ?_))
    simp only [ev0,evA,evB,evP,fl,gp,tab,simprocAttr,reduceCtorEq,reduceIte]
    refine fin_run ?_ (hK _ ?_)<;>clear hK<;>clear K
    ·(first|exact trivial|omega|(simp only [In64] at *; omega)|(simp [In64] at *; omega)|(simp_all; done)|skip)
    refine qa (qk (qb ?_))
    simp only [Tryd.results76,enA,ev0,evA,evB,evP,fl,gp,tab,simprocAttr,reduceCtorEq,reduceIte]
    all_goals (rw [gf_size (by omega) (by omega) (by omega)]; simp)
   ·(try simp only [nhs] at hC2)
    have hl:m.length=n * n:=by omega
    refine qh (qa (qm (qm ?_)))
    refine hk_region fun K hK=>runs_eval tab_ok ?_
    simp only [ev0,evA,evB,evP,fl,gp,tab,simprocAttr,reduceCtorEq,reduceIte]
    refine fin_run ?_ (hK _ ?_)<;>clear hK<;>clear K
    ·(first|exact trivial|omega|(simp only [In64] at *; omega)|(simp [In64] at *; omega)|(simp_all; done)|skip)
    refine qa (ql ?_)
    refine hk_loop (ι:=Nat) (fun i=>⟨144,[(1,.ptr 0 0),(2,.ptr 1 0),(33,.p (.list (il m))),(34,.p (.int .i64 m.length)),(35,.p (.int .i64 i))],[.own [.p (.int .i64 n),.p (.list (il m))],.own [.p (.int .i64 0),.p (.int .i64 0)]]⟩) (fun i=>i≤m.length∧∀ j,j < i→bad n m j=false) (fun i=>m.length - i) 0 ⟨Nat.zero_le _,fun j hj=>by omega⟩ [0,1] (by simp only [leq,leA,ev0,evA,evB,evP,fl,gp,tab,simprocAttr,reduceCtorEq,reduceIte]<;>trivial) fun i hi=>?_
    obtain ⟨hi1,hi2⟩:=hi
    refine qm ?_
    refine hk_region fun K hK=>runs_eval tab_ok ?_
    simp only [ev0,evA,evB,evP,fl,gp,tab,simprocAttr,reduceCtorEq,reduceIte]
    refine fin_run trivial (hK _ ?_)<;>clear hK<;>clear K
    refine qa (qm ?_)
    refine hk_cond rfl (fun hC3=>?_) (fun hC3=>?_)
    ·(try simp only [nhs] at hC3)
     have hlt:i < m.length:=by omega
     refine qh (qa (qm (ql (qm ?_))))
     refine hk_region fun K hK=>runs_eval tab_ok ?_
     simp only [ev0,evA,evB,evP,fl,gp,tab,simprocAttr,reduceCtorEq,reduceIte,il_get hlt]
     refine fin_run ?_ (hK _ ?_)<;>clear hK<;>clear K
     ·(first|exact trivial|omega|(simp only [In64] at *; omega)|(simp [In64] at *; omega)|(simp_all; done)|skip)
     refine qa (qm ?_)
     by_cases g8a:m.getD i 0 < 0
     ·refine hk_region fun K hK=>runs_eval tab_ok ?_
      simp only [ev0,evA,evB,evP,fl,gp,tab,simprocAttr,reduceCtorEq,reduceIte,decide_eq_true g8a]
      refine fin_run trivial (hK _ ?_)<;>clear hK<;>clear K
      refine qa ?_
      refine hk_cond rfl (fun hC4=>?_) (fun hC4=>?_)
      ·refine qm ?_
       refine hk_region fun K hK=>runs_eval tab_ok ?_
       simp only [ev0,evA,evB,evP,fl,gp,tab,simprocAttr,reduceCtorEq,reduceIte]
       refine fin_stop trivial (runs_call (fault_c 3 i) rfl rfl rfl (by simp only [dstOk,Nat.reduceLT]) (by repeat (first|exact trivial|constructor)) (runs_eval tab_ok ?_))
       simp only [ev0,evA,evB,evP,fl,gp,tab,simprocAttr,reduceCtorEq,reduceIte]
       refine fin_run ?_ (hK _ ?_)<;>clear hK<;>clear K
       ·(first|exact trivial|omega|(simp only [In64] at *; omega)|(simp [In64] at *; omega)|(simp_all; done)|skip)
       refine qa (qk (qe (qb (qb (qe (qb ?_))))))
       simp only [Tryd.results76,enA,ev0,evA,evB,evP,fl,gp,tab,simprocAttr,reduceCtorEq,reduceIte]
       all_goals (rw [gf_range (by omega) (by omega) hl hlt (decide_eq_true (.inl g8a)) hi2]; simp)
      ·cases hC4
     ·refine hk_region fun K hK=>runs_eval tab_ok ?_
      simp only [ev0,evA,evB,evP,fl,gp,tab,simprocAttr,reduceCtorEq,reduceIte,decide_eq_false g8a]
      refine fin_run ?_ (hK _ ?_)<;>clear hK<;>clear K
      ·(first|exact trivial|omega|(simp only [In64] at *; omega)|(simp [In64] at *; omega)|(simp_all; done)|skip)
      refine qa ?_
      refine hk_cond rfl (fun hC4=>?_) (fun hC4=>?_)
      ·(try simp only [nhs] at hC4)
       refine qm ?_
       refine hk_region fun K hK=>runs_eval tab_ok ?_
       simp only [ev0,evA,evB,evP,fl,gp,tab,simprocAttr,reduceCtorEq,reduceIte]
       refine fin_stop trivial (runs_call (fault_c 3 i) rfl rfl rfl (by simp only [dstOk,Nat.reduceLT]) (by repeat (first|exact trivial|constructor)) (runs_eval tab_ok ?_))
       simp only [ev0,evA,evB,evP,fl,gp,tab,simprocAttr,reduceCtorEq,reduceIte]
       refine fin_run ?_ (hK _ ?_)<;>clear hK<;>clear K
       ·(first|exact trivial|omega|(simp only [In64] at *; omega)|(simp [In64] at *; omega)|(simp_all; done)|skip)
       refine qa (qk (qe (qb (qb (qe (qb ?_))))))
       simp only [Tryd.results76,enA,ev0,evA,evB,evP,fl,gp,tab,simprocAttr,reduceCtorEq,reduceIte]
       all_goals (rw [gf_range (by omega) (by omega) hl hlt (decide_eq_true (.inr hC4)) hi2]; simp)
      ·(try simp only [nhs] at hC4)
       refine qh (qd (qa ?_))
       refine hk_region fun K hK=>runs_eval tab_ok ?_
       simp only [ev0,evA,evB,evP,fl,gp,tab,simprocAttr,reduceCtorEq,reduceIte]
       refine fin_run ?_ (hK _ ?_)<;>clear hK<;>clear K
       ·(first|exact trivial|omega|(simp only [In64] at *; omega)|(simp [In64] at *; omega)|(simp_all; done)|skip)
       refine qa ?_
       refine ⟨i + 1,[0,1],⟨by omega,fun j hj=>?_⟩,by omega,?_⟩
       ·by_cases hj:j=i
        ·subst hj; exact decide_eq_false (by omega)
        ·exact hi2 j (by omega)
       ·simp only [leq,leA,ev0,evA,evB,evP,fl,gp,tab,simprocAttr,reduceCtorEq,reduceIte]<;>first|trivial|omega
    ·(try simp only [nhs] at hC3)
     have T:Tab n m:=by
      refine ⟨by omega,by omega,hl,fun j hj=>?_⟩
      have:=of_decide_eq_false (hi2 j (by omega))
      omega
     refine qj (qc (qc (qf (qa (qm ?_)))))
     refine hk_region fun K hK=>runs_eval tab_ok ?_
     simp only [ev0,evA,evB,evP,fl,gp,tab,simprocAttr,reduceCtorEq,reduceIte]
     refine fin_run trivial (hK _ ?_)<;>clear hK<;>clear K
     refine qa (qm (qm ?_))
     refine hk_region fun K hK=>runs_eval tab_ok ?_
     simp only [ev0,evA,evB,evP,fl,gp,tab,simprocAttr,reduceCtorEq,reduceIte]
     refine fin_run ?_ (hK _ ?_)<;>clear hK<;>clear K
     ·(first|exact trivial|omega|(simp only [In64] at *; omega)|(simp [In64] at *; omega)|(simp_all; done)|skip)
     refine qa (ql ?_)
     refine hk_loop (ι:=Nat) (fun i=>⟨144,[(1,.ptr 0 0),(2,.ptr 1 0),(5,.p (.int .i64 (oneI m n i))),(52,.p (.int .i64 n)),(53,.p (.int .i64 i))],[.own [.p (.int .i64 n),.p (.list (il m))],.own [.p (.int .i64 0),.p (.int .i64 0)]]⟩) (fun i=>i≤n) (fun i=>n - i) 0 (Nat.zero_le _) [0,1] (by simp only [leq,leA,ev0,evA,evB,evP,fl,gp,tab,simprocAttr,reduceCtorEq,reduceIte]<;>trivial) fun i hi=>?_
     refine qm ?_
     refine hk_region fun K hK=>runs_eval tab_ok ?_
     simp only [ev0,evA,evB,evP,fl,gp,tab,simprocAttr,reduceCtorEq,reduceIte]
     refine fin_run trivial (hK _ ?_)<;>clear hK<;>clear K
     refine qa (qm ?_)
     refine hk_cond rfl (fun hC5=>?_) (fun hC5=>?_)
     ·(try simp only [nhs] at hC5)
      have hil:i < n:=by omega
      refine qh (qa (qm (ql (qm ?_))))
      refine hk_region fun K hK=>runs_eval tab_ok ?_
      simp only [ev0,evA,evB,evP,fl,gp,tab,simprocAttr,reduceCtorEq,reduceIte]
      refine fin_run trivial (hK _ ?_)<;>clear hK<;>clear K
      refine qa (qm ?_)
      refine hk_region fun K hK=>runs_eval tab_ok ?_
      simp only [ev0,evA,evB,evP,fl,gp,tab,simprocAttr,reduceCtorEq,reduceIte]
      refine fin_run trivial (hK _ ?_)<;>clear hK<;>clear K
      refine qa (qm (qm ?_))
      refine hk_region fun K hK=>runs_eval tab_ok ?_
      simp only [ev0,evA,evB,evP,fl,gp,tab,simprocAttr,reduceCtorEq,reduceIte]
      refine fin_run ?_ (hK _ ?_)<;>clear hK<;>clear K
      ·(first|exact trivial|omega|(simp only [In64] at *; omega)|(simp [In64] at *; omega)|(simp_all; done)|skip)
      refine qa (ql ?_)
      refine hk_loop (ι:=Nat) (fun b=>⟨144,[(1,.ptr 0 0),(2,.ptr 1 0),(5,.p (.int .i64 (oneI m n i))),(6,.p (.int .i64 i)),(7,.p (.bool (decide (∀ c,c < b→op m n i c=c∧op m n c i=c)))),(52,.p (.int .i64 n)),(53,.p (.int .i64 i)),(57,.p (.int .i64 n)),(58,.p (.int .i64 b))],[.own [.p (.int .i64 n),.p (.list (il m))],.own [.p (.int .i64 0),.p (.int .i64 0)]]⟩) (fun b=>b≤n) (fun b=>n - b) 0 (Nat.zero_le _) [0,1] (by simp only [leq,leA,ev0,evA,evB,evP,fl,gp,tab,simprocAttr,reduceCtorEq,reduceIte]<;>simp) fun b hb=>?_
      refine qm ?_
      refine hk_region fun K hK=>runs_eval tab_ok ?_
      simp only [ev0,evA,evB,evP,fl,gp,tab,simprocAttr,reduceCtorEq,reduceIte]
      refine fin_run trivial (hK _ ?_)<;>clear hK<;>clear K
      refine qa (qm ?_)
      refine hk_cond rfl (fun hC6=>?_) (fun hC6=>?_)
      ·(try simp only [nhs] at hC6)
       have hbl:b < n:=by omega
       refine qh (qa (qm (ql (qm ?_))))
       refine hk_region fun K hK=>runs_eval tab_ok ?_
       simp only [ev0,evA,evB,evP,fl,gp,tab,simprocAttr,reduceCtorEq,reduceIte]
       refine fin_run trivial (hK _ ?_)<;>clear hK<;>clear K
       refine qa ?_
       by_cases g19a:∀ c,c < b→op m n i c=c∧op m n c i=c
       ·by_cases g19b:((op m n i b:Nat):Int)=(b:Nat)
        ·refine hk_region fun K hK=>runs_eval tab_ok ?_
         simp only [ev0,evA,evB,evP,fl,gp,tab,simprocAttr,reduceCtorEq,reduceIte,decide_eq_true g19a,decide_eq_true g19b]
         refine fin_stop trivial (runs_call (of_c T hil hbl) rfl rfl rfl (by simp only [dstOk,Nat.reduceLT]) (by repeat (first|exact trivial|constructor)) (runs_eval tab_ok ?_))
         simp only [ev0,evA,evB,evP,fl,gp,tab,simprocAttr,reduceCtorEq,reduceIte,decide_eq_true g19a,decide_eq_true g19b]
         refine fin_stop trivial (runs_call (of_c T hbl hil) rfl rfl rfl (by simp only [dstOk,Nat.reduceLT]) (by repeat (first|exact trivial|constructor)) (runs_eval tab_ok ?_))
         simp only [ev0,evA,evB,evP,fl,gp,tab,simprocAttr,reduceCtorEq,reduceIte,decide_eq_true g19a,decide_eq_true g19b]
         refine fin_run ?_ (hK _ ?_)<;>clear hK<;>clear K
         ·(first|exact trivial|omega|(simp only [In64] at *; omega)|(simp [In64] at *; omega)|(simp_all; done)|skip)
         refine qd (qa ?_)
         refine hk_region fun K hK=>runs_eval tab_ok ?_
         simp only [ev0,evA,evB,evP,fl,gp,tab,simprocAttr,reduceCtorEq,reduceIte]
         refine fin_run ?_ (hK _ ?_)<;>clear hK<;>clear K
         ·(first|exact trivial|omega|(simp only [In64] at *; omega)|(simp [In64] at *; omega)|(simp_all; done)|skip)
         refine qa ?_
         refine ⟨b + 1,[0,1],by omega,by omega,?_⟩
         have hd:decide (∀ c,c < b + 1→op m n i c=c∧op m n c i=c)=decide (((op m n b i:Nat):Int)=(b:Nat)):=by
          apply decide_eq_decide.2
          constructor
          ·intro h; have:=h b (by omega); omega
          ·intro h c hc
           by_cases hcb:c=b
           ·subst hcb; omega
           ·exact g19a c (by omega)
         rw [hd]
         simp only [leq,leA,ev0,evA,evB,evP,fl,gp,tab,simprocAttr,reduceCtorEq,reduceIte]<;>first|trivial|omega
        ·refine hk_region fun K hK=>runs_eval tab_ok ?_
         simp only [ev0,evA,evB,evP,fl,gp,tab,simprocAttr,reduceCtorEq,reduceIte,decide_eq_true g19a,decide_eq_false g19b]
         refine fin_stop trivial (runs_call (of_c T hil hbl) rfl rfl rfl (by simp only [dstOk,Nat.reduceLT]) (by repeat (first|exact trivial|constructor)) (runs_eval tab_ok ?_))
         simp only [ev0,evA,evB,evP,fl,gp,tab,simprocAttr,reduceCtorEq,reduceIte,decide_eq_true g19a,decide_eq_false g19b]
         refine fin_run ?_ (hK _ ?_)<;>clear hK<;>clear K
         ·(first|exact trivial|omega|(simp only [In64] at *; omega)|(simp [In64] at *; omega)|(simp_all; done)|skip)
         refine qd (qa ?_)
         refine hk_region fun K hK=>runs_eval tab_ok ?_
         simp only [ev0,evA,evB,evP,fl,gp,tab,simprocAttr,reduceCtorEq,reduceIte]
         refine fin_run ?_ (hK _ ?_)<;>clear hK<;>clear K
         ·(first|exact trivial|omega|(simp only [In64] at *; omega)|(simp [In64] at *; omega)|(simp_all; done)|skip)
         refine qa ?_
         refine ⟨b + 1,[0,1],by omega,by omega,?_⟩
         rw [dall_no (P:=fun c=>op m n i c=c∧op m n c i=c) (b:=b) fun h=>by omega]
         simp only [leq,leA,ev0,evA,evB,evP,fl,gp,tab,simprocAttr,reduceCtorEq,reduceIte]<;>first|trivial|omega
       ·refine hk_region fun K hK=>runs_eval tab_ok ?_
        simp only [ev0,evA,evB,evP,fl,gp,tab,simprocAttr,reduceCtorEq,reduceIte,decide_eq_false g19a]
        refine fin_run trivial (hK _ ?_)<;>clear hK<;>clear K
        refine qd (qa ?_)
        refine hk_region fun K hK=>runs_eval tab_ok ?_
        simp only [ev0,evA,evB,evP,fl,gp,tab,simprocAttr,reduceCtorEq,reduceIte]
        refine fin_run ?_ (hK _ ?_)<;>clear hK<;>clear K
        ·(first|exact trivial|omega|(simp only [In64] at *; omega)|(simp [In64] at *; omega)|(simp_all; done)|skip)
        refine qa ?_
        refine ⟨b + 1,[0,1],by omega,by omega,?_⟩
        rw [show decide (∀ c,c < b + 1→op m n i c=c∧op m n c i=c)=false from decide_eq_false fun h=>g19a fun c hc=>h c (by omega)]
        simp only [leq,leA,ev0,evA,evB,evP,fl,gp,tab,simprocAttr,reduceCtorEq,reduceIte]<;>first|trivial|omega
      ·(try simp only [nhs] at hC6)
       have hbn:b=n:=by omega
       subst hbn
       refine qj (qc (qc (qf (qa (qm ?_)))))
       refine hk_region fun K hK=>runs_eval tab_ok ?_
       simp only [ev0,evA,evB,evP,fl,gp,tab,simprocAttr,reduceCtorEq,reduceIte]
       refine fin_run trivial (hK _ ?_)<;>clear hK<;>clear K
       refine qa ?_
       refine hk_cond rfl (fun hone=>?_) (fun hone=>?_)
       ·(try simp only [nhs] at hone)
        refine hk_region fun K hK=>runs_eval tab_ok ?_
        simp only [ev0,evA,evB,evP,fl,gp,tab,simprocAttr,reduceCtorEq,reduceIte]
        refine fin_run trivial (hK _ ?_)<;>clear hK<;>clear K
        refine qd (qa ?_)
        refine hk_region fun K hK=>runs_eval tab_ok ?_
        simp only [ev0,evA,evB,evP,fl,gp,tab,simprocAttr,reduceCtorEq,reduceIte]
        refine fin_run ?_ (hK _ ?_)<;>clear hK<;>clear K
        ·(first|exact trivial|omega|(simp only [In64] at *; omega)|(simp [In64] at *; omega)|(simp_all; done)|skip)
        refine qa ?_
        refine ⟨i + 1,[0,1],by omega,by omega,?_⟩
        simp only [oneI]
        rw [if_pos (show isE m b i from hone)]
        simp only [leq,leA,ev0,evA,evB,evP,fl,gp,tab,simprocAttr,reduceCtorEq,reduceIte]<;>first|trivial|omega
       ·(try simp only [nhs] at hone)
        refine qh (qd (qa ?_))
        refine hk_region fun K hK=>runs_eval tab_ok ?_
        simp only [ev0,evA,evB,evP,fl,gp,tab,simprocAttr,reduceCtorEq,reduceIte]
        refine fin_run ?_ (hK _ ?_)<;>clear hK<;>clear K
        ·(first|exact trivial|omega|(simp only [In64] at *; omega)|(simp [In64] at *; omega)|(simp_all; done)|skip)
        refine qa ?_
        refine ⟨i + 1,[0,1],by omega,by omega,?_⟩
        simp only [oneI]
        rw [if_neg (show ¬ isE m b i from hone)]
        simp only [leq,leA,ev0,evA,evB,evP,fl,gp,tab,simprocAttr,reduceCtorEq,reduceIte]<;>first|trivial|omega
     ·(try simp only [nhs] at hC5)
      have hin:i=n:=by omega
      subst hin
      rw [oneI_eI]
      refine qj (qc (qc (qf (qa (qm (qm ?_))))))
      refine hk_region fun K hK=>runs_eval tab_ok ?_
      simp only [ev0,evA,evB,evP,fl,gp,tab,simprocAttr,reduceCtorEq,reduceIte]
      refine fin_run trivial (hK _ ?_)<;>clear hK<;>clear K
      refine qa ?_
      refine hk_cond rfl (fun hC8=>?_) (fun hC8=>?_)
      ·(try simp only [nhs] at hC8)
       refine qm ?_
       refine hk_region fun K hK=>runs_eval tab_ok ?_
       simp only [ev0,evA,evB,evP,fl,gp,tab,simprocAttr,reduceCtorEq,reduceIte]
       refine fin_stop trivial (runs_call (fault_c 6 0) rfl rfl rfl (by simp only [dstOk,Nat.reduceLT]) (by repeat (first|exact trivial|constructor)) (runs_eval tab_ok ?_))
       simp only [ev0,evA,evB,evP,fl,gp,tab,simprocAttr,reduceCtorEq,reduceIte]
       refine fin_run ?_ (hK _ ?_)<;>clear hK<;>clear K
       ·(first|exact trivial|omega|(simp only [In64] at *; omega)|(simp [In64] at *; omega)|(simp_all; done)|skip)
       refine qa (qk (qb ?_))
       simp only [Tryd.results76,enA,ev0,evA,evB,evP,fl,gp,tab,simprocAttr,reduceCtorEq,reduceIte]
       all_goals (rw [gf_tab T,gf2_6 hC8]; simp)
      ·(try simp only [nhs] at hC8)
       refine qh (qa (qm (qm ?_)))
       refine hk_region fun K hK=>runs_eval tab_ok ?_
       simp only [ev0,evA,evB,evP,fl,gp,tab,simprocAttr,reduceCtorEq,reduceIte]
       refine fin_run ?_ (hK _ ?_)<;>clear hK<;>clear K
       ·(first|exact trivial|omega|(simp only [In64] at *; omega)|(simp [In64] at *; omega)|(simp_all; done)|skip)
       refine qa (ql ?_)
       refine hk_loop (ι:=Nat) (fun a=>⟨144,[(1,.ptr 0 0),(2,.ptr 1 0),(5,.p (.int .i64 (eI m i))),(86,.p (.int .i64 i)),(87,.p (.int .i64 a))],[.own [.p (.int .i64 i),.p (.list (il m))],.own [.p (.int .i64 0),.p (.int .i64 0)]]⟩) (fun a=>a≤i∧∀ j,j < a→asc m i j) (fun a=>i - a) 0 ⟨Nat.zero_le _,fun j hj=>by omega⟩ [0,1] (by simp only [leq,leA,ev0,evA,evB,evP,fl,gp,tab,simprocAttr,reduceCtorEq,reduceIte]<;>trivial) fun a ha=>?_
       obtain ⟨ha1,ha2⟩:=ha
       refine qm ?_
       refine hk_region fun K hK=>runs_eval tab_ok ?_
       simp only [ev0,evA,evB,evP,fl,gp,tab,simprocAttr,reduceCtorEq,reduceIte]
       refine fin_run trivial (hK _ ?_)<;>clear hK<;>clear K
       refine qa (qm ?_)
       refine hk_cond rfl (fun hC9=>?_) (fun hC9=>?_)
       ·(try simp only [nhs] at hC9)
        have hal:a < i:=by omega
        refine qh (qa (qm (ql (qm ?_))))
        refine hk_region fun K hK=>runs_eval tab_ok ?_
        simp only [ev0,evA,evB,evP,fl,gp,tab,simprocAttr,reduceCtorEq,reduceIte]
        refine fin_run trivial (hK _ ?_)<;>clear hK<;>clear K
        refine qa (qm ?_)
        refine hk_region fun K hK=>runs_eval tab_ok ?_
        simp only [ev0,evA,evB,evP,fl,gp,tab,simprocAttr,reduceCtorEq,reduceIte]
        refine fin_run ?_ (hK _ ?_)<;>clear hK<;>clear K
        ·(first|exact trivial|omega|(simp only [In64] at *; omega)|(simp [In64] at *; omega)|(simp_all; done)|skip)
        refine qa (ql ?_)
        refine hk_loop (ι:=Nat) (fun b=>⟨144,[(1,.ptr 0 0),(2,.ptr 1 0),(5,.p (.int .i64 (eI m i))),(9,.p (.int .i64 a)),(86,.p (.int .i64 i)),(87,.p (.int .i64 a)),(91,.p (.int .i64 i)),(92,.p (.int .i64 b))],[.own [.p (.int .i64 i),.p (.list (il m))],.own [.p (.int .i64 0),.p (.int .i64 0)]]⟩) (fun b=>b≤i∧∀ j,j < b→∀ c,c < i→op m i (op m i a j) c=op m i a (op m i j c)) (fun b=>i - b) 0 ⟨Nat.zero_le _,fun j hj=>by omega⟩ [0,1] (by simp only [leq,leA,ev0,evA,evB,evP,fl,gp,tab,simprocAttr,reduceCtorEq,reduceIte]<;>trivial) fun b hb=>?_
        obtain ⟨hb1,hb2⟩:=hb
        refine qm ?_
        refine hk_region fun K hK=>runs_eval tab_ok ?_
        simp only [ev0,evA,evB,evP,fl,gp,tab,simprocAttr,reduceCtorEq,reduceIte]
        refine fin_run trivial (hK _ ?_)<;>clear hK<;>clear K
        refine qa (qm ?_)
        refine hk_cond rfl (fun hC10=>?_) (fun hC10=>?_)
        ·(try simp only [nhs] at hC10)
         have hbl:b < i:=by omega
         refine qh (qa (qm (ql (qm ?_))))
         refine hk_region fun K hK=>runs_eval tab_ok ?_
         simp only [ev0,evA,evB,evP,fl,gp,tab,simprocAttr,reduceCtorEq,reduceIte]
         refine fin_run trivial (hK _ ?_)<;>clear hK<;>clear K
         refine qa (qm ?_)
         refine hk_region fun K hK=>runs_eval tab_ok ?_
         simp only [ev0,evA,evB,evP,fl,gp,tab,simprocAttr,reduceCtorEq,reduceIte]
         refine fin_run ?_ (hK _ ?_)<;>clear hK<;>clear K
         ·(first|exact trivial|omega|(simp only [In64] at *; omega)|(simp [In64] at *; omega)|(simp_all; done)|skip)
         refine qa (ql ?_)
         refine hk_loop (ι:=Nat) (fun c=>⟨144,[(1,.ptr 0 0),(2,.ptr 1 0),(5,.p (.int .i64 (eI m i))),(9,.p (.int .i64 a)),(10,.p (.int .i64 b)),(86,.p (.int .i64 i)),(87,.p (.int .i64 a)),(91,.p (.int .i64 i)),(92,.p (.int .i64 b)),(96,.p (.int .i64 i)),(97,.p (.int .i64 c))],[.own [.p (.int .i64 i),.p (.list (il m))],.own [.p (.int .i64 0),.p (.int .i64 0)]]⟩) (fun c=>c≤i∧∀ j,j < c→op m i (op m i a b) j=op m i a (op m i b j)) (fun c=>i - c) 0 ⟨Nat.zero_le _,fun j hj=>by omega⟩ [0,1] (by simp only [leq,leA,ev0,evA,evB,evP,fl,gp,tab,simprocAttr,reduceCtorEq,reduceIte]<;>trivial) fun c hc=>?_
         obtain ⟨hc1,hc2⟩:=hc
         refine qm ?_
         refine hk_region fun K hK=>runs_eval tab_ok ?_
         simp only [ev0,evA,evB,evP,fl,gp,tab,simprocAttr,reduceCtorEq,reduceIte]
         refine fin_run trivial (hK _ ?_)<;>clear hK<;>clear K
         refine qa (qm ?_)
         refine hk_cond rfl (fun hC11=>?_) (fun hC11=>?_)
         ·(try simp only [nhs] at hC11)
          have hcl:c < i:=by omega
          refine qh (qa (qm (ql (qm ?_))))
          refine hk_region fun K hK=>runs_eval tab_ok ?_
          simp only [ev0,evA,evB,evP,fl,gp,tab,simprocAttr,reduceCtorEq,reduceIte]
          refine fin_run trivial (hK _ ?_)<;>clear hK<;>clear K
          refine qa (qm ?_)
          refine hk_draw mixed (by kernel_rfl) fun K hK=>runs_eval tab_ok ?_
          simp only [ev0,evA,evB,evP,fl,gp,tab,simprocAttr,reduceCtorEq,reduceIte]
          refine fin_stop trivial (runs_call (of_c T hal hbl) rfl rfl rfl (by simp only [dstOk,Nat.reduceLT]) (by repeat (first|exact trivial|constructor)) (runs_eval tab_ok ?_))
          simp only [ev0,evA,evB,evP,fl,gp,tab,simprocAttr,reduceCtorEq,reduceIte]
          refine fin_stop trivial (runs_call (of_c T (T.lt hal hbl) hcl) rfl rfl rfl (by simp only [dstOk,Nat.reduceLT]) (by repeat (first|exact trivial|constructor)) (runs_eval tab_ok ?_))
          simp only [ev0,evA,evB,evP,fl,gp,tab,simprocAttr,reduceCtorEq,reduceIte]
          refine fin_stop trivial (runs_call (of_c T hbl hcl) rfl rfl rfl (by simp only [dstOk,Nat.reduceLT]) (by repeat (first|exact trivial|constructor)) (runs_eval tab_ok ?_))
          simp only [ev0,evA,evB,evP,fl,gp,tab,simprocAttr,reduceCtorEq,reduceIte]
          refine fin_stop trivial (runs_call (of_c T hal (T.lt hbl hcl)) rfl rfl rfl (by simp only [dstOk,Nat.reduceLT]) (by repeat (first|exact trivial|constructor)) (runs_eval tab_ok ?_))
          simp only [ev0,evA,evB,evP,fl,gp,tab,simprocAttr,reduceCtorEq,reduceIte]
          refine fin_run ?_ (hK _ ?_)<;>clear hK<;>clear K
          ·(first|exact trivial|omega|(simp only [In64] at *; omega)|(simp [In64] at *; omega)|(simp_all; done)|skip)
          refine qa ?_
          refine hk_cond rfl (fun hC12=>?_) (fun hC12=>?_)
          ·(try simp only [nhs] at hC12)
           refine qm ?_
           refine hk_region fun K hK=>runs_eval tab_ok ?_
           simp only [ev0,evA,evB,evP,fl,gp,tab,simprocAttr,reduceCtorEq,reduceIte]
           refine fin_stop trivial (runs_call (fault_c 7 a) rfl rfl rfl (by simp only [dstOk,Nat.reduceLT]) (by repeat (first|exact trivial|constructor)) (runs_eval tab_ok ?_))
           simp only [ev0,evA,evB,evP,fl,gp,tab,simprocAttr,reduceCtorEq,reduceIte]
           refine fin_run ?_ (hK _ ?_)<;>clear hK<;>clear K
           ·(first|exact trivial|omega|(simp only [In64] at *; omega)|(simp [In64] at *; omega)|(simp_all; done)|skip)
           refine qa (qk (qe (qb (qb (qe (qe (qb (qb (qe (qe (qb (qb (qe (qb ?_))))))))))))))
           simp only [Tryd.results76,enA,ev0,evA,evB,evP,fl,gp,tab,simprocAttr,reduceCtorEq,reduceIte]
           all_goals (rw [gf_tab T,gf2_7 hC8 hal (fun h=>hC12 (by rw [h b hbl c hcl])) ha2]; simp)
          ·(try simp only [nhs] at hC12)
           refine qh (qd (qa ?_))
           refine hk_region fun K hK=>runs_eval tab_ok ?_
           simp only [ev0,evA,evB,evP,fl,gp,tab,simprocAttr,reduceCtorEq,reduceIte]
           refine fin_run ?_ (hK _ ?_)<;>clear hK<;>clear K
           ·(first|exact trivial|omega|(simp only [In64] at *; omega)|(simp [In64] at *; omega)|(simp_all; done)|skip)
           refine qa ?_
           refine ⟨c + 1,[0,1],⟨by omega,fun j hj=>?_⟩,by omega,?_⟩
           ·by_cases hj:j=c
            ·subst hj; omega
            ·exact hc2 j (by omega)
           ·simp only [leq,leA,ev0,evA,evB,evP,fl,gp,tab,simprocAttr,reduceCtorEq,reduceIte]<;>first|trivial|omega
         ·(try simp only [nhs] at hC11)
          refine qj (qc (qc (qf (qd (qa ?_)))))
          refine hk_region fun K hK=>runs_eval tab_ok ?_
          simp only [ev0,evA,evB,evP,fl,gp,tab,simprocAttr,reduceCtorEq,reduceIte]
          refine fin_run ?_ (hK _ ?_)<;>clear hK<;>clear K
          ·(first|exact trivial|omega|(simp only [In64] at *; omega)|(simp [In64] at *; omega)|(simp_all; done)|skip)
          refine qa ?_
          refine ⟨b + 1,[0,1],⟨by omega,fun j hj=>?_⟩,by omega,?_⟩
          ·by_cases hj:j=b
           ·subst hj; exact fun c' hc'=>hc2 c' (by omega)
           ·exact hb2 j (by omega)
          ·simp only [leq,leA,ev0,evA,evB,evP,fl,gp,tab,simprocAttr,reduceCtorEq,reduceIte]<;>first|trivial|omega
        ·(try simp only [nhs] at hC10)
         refine qj (qc (qc (qf (qd (qa ?_)))))
         refine hk_region fun K hK=>runs_eval tab_ok ?_
         simp only [ev0,evA,evB,evP,fl,gp,tab,simprocAttr,reduceCtorEq,reduceIte]
         refine fin_run ?_ (hK _ ?_)<;>clear hK<;>clear K
         ·(first|exact trivial|omega|(simp only [In64] at *; omega)|(simp [In64] at *; omega)|(simp_all; done)|skip)
         refine qa ?_
         refine ⟨a + 1,[0,1],⟨by omega,fun j hj=>?_⟩,by omega,?_⟩
         ·by_cases hj:j=a
          ·subst hj; exact fun c' hc'=>hb2 c' (by omega)
          ·exact ha2 j (by omega)
         ·simp only [leq,leA,ev0,evA,evB,evP,fl,gp,tab,simprocAttr,reduceCtorEq,reduceIte]<;>first|trivial|omega
       ·(try simp only [nhs] at hC9)
        have hs:∀ a,a < i→asc m i a:=fun j hj=>ha2 j (by omega)
        refine qj (qc (qc (qf (qa (qm (qm ?_))))))
        refine hk_region fun K hK=>runs_eval tab_ok ?_
        simp only [ev0,evA,evB,evP,fl,gp,tab,simprocAttr,reduceCtorEq,reduceIte]
        refine fin_run ?_ (hK _ ?_)<;>clear hK<;>clear K
        ·(first|exact trivial|omega|(simp only [In64] at *; omega)|(simp [In64] at *; omega)|(simp_all; done)|skip)
        refine qa (ql ?_)
        refine hk_loop (ι:=Nat) (fun a=>⟨144,[(1,.ptr 0 0),(2,.ptr 1 0),(5,.p (.int .i64 (eI m i))),(121,.p (.int .i64 i)),(122,.p (.int .i64 a))],[.own [.p (.int .i64 i),.p (.list (il m))],.own [.p (.int .i64 0),.p (.int .i64 0)]]⟩) (fun a=>a≤i∧∀ j,j < a→¬ iI m i j < 0) (fun a=>i - a) 0 ⟨Nat.zero_le _,fun j hj=>by omega⟩ [0,1] (by simp only [leq,leA,ev0,evA,evB,evP,fl,gp,tab,simprocAttr,reduceCtorEq,reduceIte]<;>trivial) fun k hk=>?_
        obtain ⟨hk1,hk2⟩:=hk
        refine qm ?_
        refine hk_region fun K hK=>runs_eval tab_ok ?_
        simp only [ev0,evA,evB,evP,fl,gp,tab,simprocAttr,reduceCtorEq,reduceIte]
        refine fin_run trivial (hK _ ?_)<;>clear hK<;>clear K
        refine qa (qm ?_)
        refine hk_cond rfl (fun hC13=>?_) (fun hC13=>?_)
        ·(try simp only [nhs] at hC13)
         have hkl:k < i:=by omega
         have ht:=inv_test T hC8 hs hkl
         have hr1:=row_len T hkl
         have hr2:(k + 1) * i≤i * i:=Nat.mul_le_mul_right _ hkl
         have hr3:k * i≤(k + 1) * i:=Nat.mul_le_mul_right _ (by omega)
         have hr4:(k:Int) * (i:Int)=((k * i:Nat):Int):=(Int.natCast_mul k i).symm
         have hr5:((k:Int) + 1) * (i:Int)=(((k + 1) * i:Nat):Int):=by rw [Int.natCast_mul]; rfl
         refine qh (qa (qm (ql (qm ?_))))
         refine hk_region fun K hK=>runs_eval tab_ok ?_
         simp only [ev0,evA,evB,evP,fl,gp,tab,simprocAttr,reduceCtorEq,reduceIte]
         refine fin_run trivial (hK _ ?_)<;>clear hK<;>clear K
         refine qa (qm ?_)
         refine hk_region fun K hK=>runs_eval tab_ok ?_
         simp only [ev0,evA,evB,evP,fl,gp,tab,simprocAttr,reduceCtorEq,reduceIte,lo_nat,hi_nat,hi_sub]
         refine fin_stop ?_ (runs_call (contains_c (row m i k) (eI m i) (by omega)) rfl rfl rfl (by simp only [dstOk,Nat.reduceLT]) (by repeat (first|exact trivial|constructor)) (runs_eval tab_ok ?_))
         ·rw [hr4,hr5]; simp only [In64]; omega
         simp only [ev0,evA,evB,evP,fl,gp,tab,simprocAttr,reduceCtorEq,reduceIte,lo_nat,hi_nat,hi_sub]
         refine fin_run ?_ (hK _ ?_)<;>clear hK<;>clear K
         ·(first|exact trivial|omega|(simp only [In64] at *; omega)|(simp [In64] at *; omega)|(simp_all; done)|skip)
         refine qa ?_
         refine hk_cond rfl (fun hC14=>?_) (fun hC14=>?_)
         ·(try simp only [nhs] at hC14)
          refine qm ?_
          refine hk_region fun K hK=>runs_eval tab_ok ?_
          simp only [ev0,evA,evB,evP,fl,gp,tab,simprocAttr,reduceCtorEq,reduceIte]
          refine fin_stop trivial (runs_call (fault_c 4 k) rfl rfl rfl (by simp only [dstOk,Nat.reduceLT]) (by repeat (first|exact trivial|constructor)) (runs_eval tab_ok ?_))
          simp only [ev0,evA,evB,evP,fl,gp,tab,simprocAttr,reduceCtorEq,reduceIte]
          refine fin_run ?_ (hK _ ?_)<;>clear hK<;>clear K
          ·(first|exact trivial|omega|(simp only [In64] at *; omega)|(simp [In64] at *; omega)|(simp_all; done)|skip)
          refine qa (qk (qe (qb (qb (qe (qb ?_))))))
          simp only [Tryd.results76,enA,ev0,evA,evB,evP,fl,gp,tab,simprocAttr,reduceCtorEq,reduceIte]
          all_goals (rw [gf_tab T,gf2_4 hC8 hs hkl (Classical.not_not.1 fun h=>hC14 (ht.2 h)) hk2]; simp)
         ·(try simp only [nhs] at hC14)
          refine qh (qd (qa ?_))
          refine hk_region fun K hK=>runs_eval tab_ok ?_
          simp only [ev0,evA,evB,evP,fl,gp,tab,simprocAttr,reduceCtorEq,reduceIte]
          refine fin_run ?_ (hK _ ?_)<;>clear hK<;>clear K
          ·(first|exact trivial|omega|(simp only [In64] at *; omega)|(simp [In64] at *; omega)|(simp_all; done)|skip)
          refine qa ?_
          refine ⟨k + 1,[0,1],⟨by omega,fun j hj=>?_⟩,by omega,?_⟩
          ·by_cases hj:j=k
           ·subst hj; exact ht.1 hC14
           ·exact hk2 j (by omega)
          ·simp only [leq,leA,ev0,evA,evB,evP,fl,gp,tab,simprocAttr,reduceCtorEq,reduceIte]<;>first|trivial|omega
        ·(try simp only [nhs] at hC13)
         refine qj (qc (qc (qf (qa (qm ?_)))))
         refine hk_region fun K hK=>runs_eval tab_ok ?_
         simp only [ev0,evA,evB,evP,fl,gp,tab,simprocAttr,reduceCtorEq,reduceIte]
         refine fin_run ?_ (hK _ ?_)<;>clear hK<;>clear K
         ·(first|exact trivial|omega|(simp only [In64] at *; omega)|(simp [In64] at *; omega)|(simp_all; done)|skip)
         refine qa (qk ?_)
         simp only [Tryd.results76,enA,ev0,evA,evB,evP,fl,gp,tab,simprocAttr,reduceCtorEq,reduceIte]
         all_goals (rw [gf_tab T,gf2_0 hC8 hs (fun j hj=>hk2 j (by omega))]; simp)
end Go.Proofs.YtboadfahlflmhaaDoor
