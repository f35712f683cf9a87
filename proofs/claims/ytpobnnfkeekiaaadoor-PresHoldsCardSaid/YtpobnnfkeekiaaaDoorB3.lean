/-
  Texts of this proof, one behind the other: what each says stands at its head. Conditions: none.
-/
import Derived.Test.YtpobnnfkeekiaaaDoorB2
import Derived.Maps.RangeRun
import Derived.Test.YtpobnnfkeekiaaaDoorProg
set_option linter.all false
namespace Go.Pv
open Go.RowKit
def aR:Nat→Nat→az
 | _,0=>[]
 | k,n + 1=>.bf k k :: aR (k + 1) n
theorem mO:∀ (n k j:Nat) (b:aH),(aR k n)[j]? = some b→j < n∧b = .bf (k + j) (k + j)
 | 0,k,j,b,h=>by simp [aR] at h
 | n + 1,k,0,b,h=>by simp [aR] at h; exact ⟨by omega,h.symm⟩
 | n + 1,k,j + 1,b,h=>by
  have:=mO n (k + 1) j b (by simpa [aR] using h)
  refine ⟨by omega,?_⟩
  rw [this.2,show k + 1 + j=k + (j + 1) by omega]
theorem xP:∀ (n k j:Nat),j < n→(aR k n)[j]? = some (.bf (k + j) (k + j))
 | n + 1,k,0,_=>rfl
 | n + 1,k,j + 1,h=>by
  rw [show aR k (n + 1) = .bf k k :: aR (k + 1) n from rfl,List.getElem?_cons_succ,xP n (k + 1) j (by omega),show k + 1 + j=k + (j + 1) by omega]
theorem gO:∀ (n k:Nat),(aR k n).length=n
 | 0,_=>rfl
 | n + 1,k=>by simp [aR,gO n]
def cK:Nat→List AV→List (Nat × AV)
 | _,[]=>[]
 | k,a :: r=>(k,a) :: cK (k + 1) r
theorem gR:∀ (l:List AV) (k t:Nat),lk (cK k l) t=if k≤t then l.getD (t - k) .dead else .dead
 | [],k,t=>by simp [cK,lk]
 | a :: r,k,t=>by
  simp only [cK,lk]
  by_cases h:k=t
  ·subst h; simp
  rw [show (k == t)=false by simpa using h]
  simp only [cond_false]
  rw [gR r (k + 1) t]
  by_cases hk:k≤t
  ·rw [if_pos (by omega),if_pos hk,show t - k=(t - (k + 1)) + 1 by omega]; rfl
  rw [if_neg (by omega),if_neg hk]
theorem xW {H X:az} {k:Nat} {b:aH} (h:(H++X)[k]? = some b):(k < H.length∧H[k]? = some b)∨X[k - H.length]? = some b:=by
 by_cases hk:k < H.length
 ·exact .inl ⟨hk,by rwa [List.getElem?_append_left hk] at h⟩
 exact .inr (by rwa [List.getElem?_append_right (by omega)] at h)
section
variable {P:Program} {T:TypeId→Option TI} {C:Ctx} {m:Map} {s:St} {tmps:Array Value} {w:World}
theorem Rel.tx (R:Rel C m s tmps w) {n:Nat} (hn:n≤s.H.length) (ha:∀ i,i < n→m i=C.bf i):Rel C m { s with H:=s.H++aR 0 n } tmps w:=by
 have gen:∀ (k:Nat) (b:aH),(∀ i j,b ≠ .bf i j)→(s.H++aR 0 n)[k]? = some b→k < s.H.length∧s.H[k]? = some b:=by
  intro k b hb h
  rcases xW h with h | h
  ·exact h
  exact absurd (mO _ _ _ _ h).2 (hb _ _)
 have own:∀ (k:Nat) (c:List AV),(s.H++aR 0 n)[k]? = some (.own c)→k < s.H.length∧s.H[k]? = some (.own c):=fun k c h=>gen k _ (fun _ _ h=>by cases h) h
 have zK:∀ (k:Nat) (kk:IntKind) (d:Int→Bool) (v:Int→PV),(s.H++aR 0 n)[k]? = some (aH.mp kk d v)→k < s.H.length∧s.H[k]? = some (aH.mp kk d v):=fun k _ _ _ h=>gen k _ (fun _ _ h=>by cases h) h
 have ho:∀ b,OK C m s.H w b→OK C m (s.H++aR 0 n) w b:=fun b h=>⟨h.1,h.2.1,fun k c l hk hl=>h.2.2 k c l (own k c hk).2 hl⟩
 have hlen:s.H.length≤(s.H++aR 0 n).length:=by simp
 have rd:∀ p v,Reads (OK C m s.H w) w p v→Reads (OK C m (s.H++aR 0 n) w) w p v:=fun p v h=>h.mono ho
 refine ⟨R.laid.ext rd,R.below,R.base,R.size,fun k k' c c' l l' h1 h2=>R.inj k k' c c' l l' (own k c h1).2 (own k' c' h2).2,fun k c h=>(R.blk k c (own k c h).2).ext rd hlen (fun _ _=>rfl) rfl fun _ _=>rfl,
  fun k c h=>(R.fro k c (gen k _ (fun _ _ h=>by cases h) h).2).ext ho (fun _ _=>rfl) rfl,fun t=>(R.slot t).ext rd hlen fun _ _=>rfl,fun k kk d v h=>(R.mp.1 k kk d v (zK k kk d v h).2).ext ho (fun _ _=>rfl) rfl fun _ _=>rfl,
  fun k k' kk d v kk' d' v' l l' h1 h2=>R.mp.2.1 k k' kk d v kk' d' v' l l' (zK _ _ _ _ h1).2 (zK _ _ _ _ h2).2,fun k i j h=>?_,R.mp.2.2.2.ext id (fun k r h=>⟨(gen k _ (fun _ _ h=>by cases h) h).2,rfl⟩) (fun _ _ _ _ _ _ h=>h) (fun _ _ _ _ _ _=>rfl) fun _ _ _ _ _ h=>h⟩
 rcases xW h with h | h
 ·obtain ⟨a1,a2⟩:=R.mp.2.2.1 k i j h.2
  exact ⟨by simp; omega,a2⟩
 obtain ⟨a1,a2⟩:=mO _ _ _ _ h
 cases a2
 refine ⟨by simp; omega,?_⟩
 rw [ha _ (by omega)]
def zI (P:Program) (f:FuncId) (args:List AV) (H0:az) (r:AV) (H1:az):Prop:=
 Fj P f∧∀ (C:Ctx) (m:Map) (w:World) (vals:Array Value),Rel C m ⟨args.length,cK 0 args,H0++aR 0 H0.length⟩ vals w →
  Calls P f vals w fun e w'=>∃ v m',e = .returned v∧Rel C m' ⟨1,[(0,r)],H1++aR 0 H0.length⟩ #[v] w'
theorem w6 (hT:∀ t ti,T t=some ti→bk P t=some ti) {f:FuncId} {fn:Func} {c:Code} {args:List AV} {av:AV} {H0 H1:az} (hf:P.funcs[f]? = some fn) (hb:fn.body=some c) (hnm:(fn.name == "runtime.NumGoroutine")=false) (hn:args.length≤fn.ntmps)
  (h:Holds P c (eR T fn.results.toList av (H1++aR 0 H0.length)) ⟨fn.ntmps,cK 0 args,H0++aR 0 H0.length⟩):zI P f args H0 av H1:=by
 refine ⟨⟨fn,hf,hnm,by rw [hb]; rfl⟩,fun C m w vals R0=>calls_of_wp hf hb (fq.1 ?_)⟩
 have hsz:vals.size=args.length:=R0.size
 have R:Rel C m ⟨fn.ntmps,cK 0 args,H0++aR 0 H0.length⟩ (vals++Array.replicate (fn.ntmps - vals.size) undef) w:=by
  refine ⟨R0.laid,R0.below,R0.base,by simp; omega,R0.inj,R0.blk,R0.fro,fun t=>?_,R0.mp⟩
  have hs:=R0.slot t
  by_cases ht:t < vals.size
  ·rw [Array.getD_eq_getD_getElem?,Array.getElem?_append_left ht,← Array.getD_eq_getD_getElem?]
   exact hs
  have e:lk (cK 0 args) t = .dead:=by
   rw [gR,if_pos (Nat.zero_le _),List.getD_eq_getElem?_getD,List.getElem?_eq_none (by omega)]; rfl
  unfold St.get
  simp only
  rw [e]
  exact .dead _
 refine eF (h none [] _ _ { tmps:=vals++Array.replicate (fn.ntmps - vals.size) undef,defers:=[] } w R rfl) fun e a' w' ⟨s',m',h1,h2,h3⟩=>?_
 have fini:gq T fn.results.toList av (H1++aR 0 H0.length) s'→a'.defers=[]∧∃ v,(results fn a'.tmps).run P w' = .ok v w'∧∃ v_1 m'',Ending.returned v = .returned v_1∧Rel C m'' ⟨1,[(0,av)],H1++aR 0 H0.length⟩ #[v_1] w':=by
  intro he
  unfold gq at he
  split at he
  ·rename_i p l hl
   obtain ⟨hp,π,hav,bD,hle⟩:=he
   obtain ⟨vs,e1,e2,e3⟩:=iK hT h2 fn.results.toList hl hp
   have hv:=kH (w:=w') e2 e3
   have R':=h2.weaken hle
   rw [hav] at hv
   have hlen:(H1++aR 0 H0.length).length=π.length:=(hle.2.2.1.get).1.symm
   have ho:=OK.weaken (C:=C) (m:=m') (w:=w') hle.2.2.1
   have hv2:=hv.rX (fun p v h=>h.mono ho) hlen bD
   refine ⟨h3,(if h:vs.toArray.size=1 then vs.toArray[0] else .tuple vs.toArray),?_,_,_,rfl,R'.laid,R'.below,R'.base,rfl,R'.inj,R'.blk,R'.fro,fun t=>?_,R'.mp⟩
   ·rw [eh,Array.mapM_eq_mapM_toList]
    simp only [Sem.run_bind,Sem.run_map]
    rw [e1]
    simp only [Result.andThen_ok]
    rfl
   cases t with
   | zero=>exact hv2
   | succ t=>exact .dead _
  exact he.elim
 cases e with
 | normal=>exact fini h1
 | ret=>exact fini h1
 | _=>exact h1.elim
theorem aG.sig {rd rd' : PV→Value→Prop} {m m2:Map} {H H2:az} {σ:List Nat} (h1:∀ p v,rd p v→rd' p v) (hs:∀ k,k < σ.length→σ.getD k 0 < H2.length∧m2 (σ.getD k 0)=m k) {x:AV} {v:Value} (h:aG rd m H x v)
  (hx:bj σ.length x=true):aG rd' m2 H2 (Go.Pv.aY σ x) v:=by
 have one:∀ {x:AV} {v:Value},aG rd m H x v→bn σ.length x=true→aG rd' m2 H2 (bg σ x) v:=by
  intro x v h bD
  cases h with
  | dead v=>exact .dead v
  | p pv v h=>exact .p pv v (h1 _ _ h)
  | sl k lo len v hk h =>
   obtain ⟨g1,g2⟩:=hs k (by simpa [bn] using bD)
   refine .sl _ lo len v g1 ?_
   unfold CG at *
   rw [g2]; exact h
  | ptr k i v hk h =>
   obtain ⟨g1,g2⟩:=hs k (by simpa [bn] using bD)
   refine .ptr _ i v g1 ?_
   unfold xz at *
   rw [g2]; exact h
  | agg l vs hl hr=>simp [bn] at bD
  | tup l vs hl hr=>simp [bn] at bD
  | cl f l vs hl hr=>simp [bn] at bD
  | itv r=>exact .itv r
  | sls k lo len sz v hk h =>
   obtain ⟨g1,g2⟩:=hs k (by simpa [bn] using bD)
   refine .sls _ lo len sz v g1 ?_
   unfold xO at *
   rw [g2]; exact h
  | mptr k v hk h =>
   obtain ⟨g1,g2⟩:=hs k (by simpa [bn] using bD)
   refine .mptr _ v g1 ?_
   unfold tM at *
   rw [g2]; exact h
  | yv k l vs v hk h hl hr=>simp [bn] at bD
 cases x with
 | agg l =>
  cases h with
  | agg _ vs hl hr =>
   refine .agg _ vs (by simpa using hl) fun c hc=>?_
   rw [List.length_map] at hc
   rw [List.getElem_map]
   exact one (hr c hc) ((List.all_eq_true.1 hx) _ (List.getElem_mem hc))
 | tup l =>
  cases h with
  | tup _ vs hl hr =>
   refine .tup _ vs (by simpa using hl) fun c hc=>?_
   rw [List.length_map] at hc
   rw [List.getElem_map]
   exact one (hr c hc) ((List.all_eq_true.1 hx) _ (List.getElem_mem hc))
 | cl f l =>
  cases h with
  | cl _ _ vs hl hr =>
   refine .cl _ _ vs (by simpa using hl) fun c hc=>?_
   rw [List.length_map] at hc
   rw [List.getElem_map]
   exact one (hr c hc) ((List.all_eq_true.1 hx) _ (List.getElem_mem hc))
 | yv k l vs =>
  simp only [bj,Bool.and_eq_true,decide_eq_true_eq] at hx
  cases h with
  | yv _ _ _ _ hk h hl hr =>
   obtain ⟨g1,g2⟩:=hs k hx.1
   refine .yv _ _ vs v g1 ?_ (by simpa using hl) fun c hc=>?_
   ·unfold Ec at *
    rw [g2]; exact h
   rw [List.length_map] at hc
   rw [List.getElem_map]
   exact one (hr c hc) ((List.all_eq_true.1 hx.2) _ (List.getElem_mem hc))
 | dead=>exact one h hx
 | p pv=>exact one h hx
 | sl k lo len=>exact one h hx
 | ptr k i=>exact one h hx
 | mptr k=>exact one h hx
 | itv r=>exact one h hx
 | sls k lo len sz=>exact one h hx
def dE:az→List Nat→az→az
 | H,[],bs=>H++bs
 | H,_ :: _,[]=>H
 | H,k :: ks,b :: bs=>dE (aF H k b) ks bs
theorem uU:∀ (ks:List Nat) (bs H:az) (k:Nat) (b:aH),(∀ k∈ks,k < H.length)→ks.length≤bs.length→(dE H ks bs)[k]? = some b →
  (∃ j:Nat,bs[j]? = some b∧(ks++List.range' H.length (bs.length - ks.length))[j]? = some k)∨(k < H.length∧k ∉ ks∧H[k]? = some b)
 | [],bs,H,k,b,_,_,h=>by
  simp only [dE] at h
  by_cases hk:k < H.length
  ·exact .inr ⟨hk,by simp,by rwa [List.getElem?_append_left hk] at h⟩
  rw [List.getElem?_append_right (by omega)] at h
  refine .inl ⟨k - H.length,h,?_⟩
  have:=(List.getElem?_eq_some_iff.1 h).1
  simp only [List.nil_append,List.length_nil,Nat.sub_zero]
  rw [List.getElem?_range' this]
  simp; omega
 | k0 :: ks,[],H,k,b,_,hl,_=>by simp at hl
 | k0 :: ks,b0 :: bs,H,k,b,hk,hl,h=>by
  simp only [dE] at h
  have h0:=hk k0 (by simp)
  rcases uU ks bs (aF H k0 b0) k b (fun k hk'=>by rw [aB]; exact hk k (by simp [hk'])) (by simpa using hl) h with ⟨j,h1,h2⟩ | ⟨h1,h2,h3⟩
  ·rw [aB] at h2
   exact .inl ⟨j + 1,by simpa using h1,by simpa using h2⟩
  rw [bF] at h3
  rw [aB] at h1
  by_cases e:k=k0
  ·subst e
   rw [if_pos ⟨rfl,h0⟩] at h3
   exact .inl ⟨0,by simpa using h3,by simp⟩
  rw [if_neg (by simp [e])] at h3
  exact .inr ⟨h1,by simp [e,h2],h3⟩
theorem nR:∀ (ks:List Nat) (bs H:az),ks.length≤bs.length→(dE H ks bs).length=H.length + (bs.length - ks.length)
 | [],bs,H,_=>by simp [dE]
 | k0 :: ks,[],H,hl=>by simp at hl
 | k0 :: ks,b0 :: bs,H,hl=>by
  simp only [dE]
  rw [nR ks bs _ (by simpa using hl),aB]; simp
def cQ:az→az→Bool
 | .mp _ _ _ :: r,.mp _ _ _ :: t=>cQ r t
 | .mp _ _ _ :: _,_=>false
 | .lp _ :: r,.lp _ :: t=>cQ r t
 | .lp _ :: _,_=>false
 | _ :: r,_ :: t=>cQ r t
 | [],_=>true
 | _ :: _,[]=>false
theorem pU:∀ {H0 H1:az},cQ H0 H1=true→∀ (j:Nat) (kk:IntKind) (d:Int→Bool) (v:Int→PV),H0[j]? = some (.mp kk d v)→∃ kk' d' v',H1[j]? = some (.mp kk' d' v')
 | [],_,_,j,_,_,_,h=>by simp at h
 | b :: r,[],hm,_,_,_,_,_=>by cases b<;>simp [cQ] at hm
 | b :: r,b' :: t,hm,0,kk,d,v,h=>by
  simp at h; subst h
  cases b'<;>simp [cQ] at hm
  exact ⟨_,_,_,rfl⟩
 | b :: r,b' :: t,hm,j + 1,kk,d,v,h=>by
  have hm2:cQ r t=true:=by cases b<;>cases b'<;>simp [cQ] at hm<;>exact hm
  simpa using pU hm2 j kk d v (by simpa using h)
theorem ry:∀ {H0 H1:az},cQ H0 H1=true→∀ (j:Nat) (r0:Loop),H0[j]? = some (.lp r0)→∃ r1,H1[j]? = some (.lp r1)
 | [],_,_,j,_,h=>by simp at h
 | b :: r,[],hm,_,_,_=>by cases b<;>simp [cQ] at hm
 | b :: r,b' :: t,hm,0,r0,h=>by
  simp at h; subst h
  cases b'<;>simp [cQ] at hm
  exact ⟨_,rfl⟩
 | b :: r,b' :: t,hm,j + 1,r0,h=>by
  have hm2:cQ r t=true:=by cases b<;>cases b'<;>simp [cQ] at hm<;>exact hm
  simpa using ry hm2 j r0 (by simpa using h)
def Cu (av:AV) (H0 H1:az):Bool:=
 bj H1.length av && H1.all (fun | .own c=>c.all (bj H1.length) | .bf _ _=>false | _=>true) && decide (H0.length≤H1.length) && cQ H0 H1 && H0.all cf
def iA (C:Ctx) (m:Map) (H:az) (ks:List Nat) (H0:az) (w:World):Ctx:=
 ⟨fun b=>OK C m H w b,fun b=>w.heap.size≤b∨∃ (j:Nat) (b0:aH) (l:Loc),H0[j]? = some b0∧b0.wr=true∧bV m ks j=some l∧l.g=b,w,bV m ks⟩
theorem Rel.qZ (R:Rel C m s tmps w) {k:Nat} {b:aH} (hb:s.H[k]? = some b) (hw:b.wr=true) {l:Loc} (hl:m k=some l):C.B l.g∧l.g < w.heap.size:=by
 cases b with
 | own c =>
  rcases R.blk k c hb with ⟨_,hn⟩ | ⟨l',cur,e,a1,a2,a3,_⟩
  ·rw [hl] at hn; cases hn
  rw [hl] at a1; cases a1
  exact ⟨a2,(Array.getElem?_eq_some_iff.1 a3).1⟩
 | mp kk d v =>
  obtain ⟨l',ar,clk,vs,a1,a2,a3,_⟩:=R.mp.1 k kk d v hb
  rw [hl] at a1; cases a1
  exact ⟨a2,(Array.getElem?_eq_some_iff.1 a3).1⟩
 | lp r =>
  obtain ⟨l',a1,a2,a3⟩:=R.mp.2.2.2.1 k r hb
  rw [hl] at a1; cases a1
  exact ⟨a2,(Array.getElem?_eq_some_iff.1 a3).1⟩
 | _=>cases hw
theorem Rel.I9 (R:Rel C m s tmps w) {k k' : Nat} {b b' : aH} (hb:s.H[k]? = some b) (hw:b.wr=true) (hb' : s.H[k']? = some b') (hw' : b'.wr=true) {l l' : Loc} (hl:m k=some l) (hl' : m k' = some l') (e:l.g=l'.g):k=k':=by
 cases b with
 | own c =>
  cases b' with
  | own c'=>exact R.inj k k' c c' l l' hb hb' hl hl' e
  | mp kk d v=>exact absurd e ((R.sj hb' hl').2.2 k c l hb hl)
  | lp r=>exact absurd e ((R.zf hb' hl').2.2 k c l hb hl)
  | _=>cases hw'
 | mp kk d v =>
  cases b' with
  | own c'=>exact absurd e.symm ((R.sj hb hl).2.2 k' c' l' hb' hl')
  | mp kk' d' v'=>exact R.mp.2.1 _ _ _ _ _ _ _ _ _ _ hb hb' hl hl' e
  | lp r =>
   exfalso
   obtain ⟨l1,ar,clk,vs,a1,a2,a3,_⟩:=R.mp.1 k kk d v hb
   obtain ⟨l2,b1,b2,b3⟩:=R.mp.2.2.2.1 k' r hb'
   rw [hl] at a1; cases a1
   rw [hl'] at b1; cases b1
   rw [e,b3] at a3; cases a3
  | _=>cases hw'
 | lp r =>
  cases b' with
  | own c'=>exact absurd e.symm ((R.zf hb hl).2.2 k' c' l' hb' hl')
  | mp kk d v =>
   exfalso
   obtain ⟨l1,ar,clk,vs,a1,a2,a3,_⟩:=R.mp.1 k' kk d v hb'
   obtain ⟨l2,b1,b2,b3⟩:=R.mp.2.2.2.1 k r hb
   rw [hl'] at a1; cases a1
   rw [hl] at b1; cases b1
   rw [e,a3] at b3; cases b3
  | lp r'=>exact R.mp.2.2.2.2 _ _ _ _ _ _ hb hb' hl hl' e
  | _=>cases hw'
 | _=>cases hw
theorem dQ.wr {π:List Nat} {H H1:az} (h3:dQ π H π H1) {j:Nat} {b0:aH} (h:H1[j]? = some b0) (hw:b0.wr=true):∃ k' b,π[j]? = some k'∧H[k']? = some b∧b.wr=true∧((∃ c,b0 = .own c)→∃ c,b = .own c)∧((∃ kk d v,b0 = .mp kk d v)→∃ kk d v,b = .mp kk d v):=by
 obtain ⟨g1,g2⟩:=h3.get
 cases b0 with
 | own c =>
  obtain ⟨k',d,a1,a2,_⟩:=dQ.own g2 j c h
  exact ⟨k',_,a1,a2,rfl,(fun _=>⟨_,rfl⟩),fun ⟨_,_,_,h⟩=>by cases h⟩
 | mp kk d v =>
  obtain ⟨k',a,b⟩:=g2 j _ h
  exact ⟨k',_,a,cd b (by simp),rfl,(fun ⟨_,h⟩=>by cases h),fun _=>⟨_,_,_,rfl⟩⟩
 | lp r =>
  obtain ⟨k',a,b⟩:=g2 j _ h
  exact ⟨k',_,a,cd b (by simp),rfl,(fun ⟨_,h⟩=>by cases h),fun ⟨_,_,_,h⟩=>by cases h⟩
 | _=>cases hw
def cC (H:az):List Nat→az
 | []=>H
 | k :: ks=>cC (aF H k .dead) ks
theorem bA:∀ (ks:List Nat) (H:az),(cC H ks).length=H.length
 | [],H=>rfl
 | k :: ks,H=>by rw [cC,bA ks,aB]
theorem rW:∀ (ks:List Nat) (H:az) {k:Nat} {b:aH},(cC H ks)[k]? = some b→(k∈ks∧b = .dead)∨(k ∉ ks∧H[k]? = some b)
 | [],H,k,b,h=>.inr ⟨by simp,h⟩
 | k0 :: ks,H,k,b,h=>by
  rcases rW ks _ h with ⟨h1,h2⟩ | ⟨h1,h2⟩
  ·exact .inl ⟨by simp [h1],h2⟩
  rw [bF] at h2
  by_cases e:k=k0∧k0 < H.length
  ·rw [if_pos e] at h2; exact .inl ⟨by simp [e.1],(Option.some.inj h2).symm⟩
  rw [if_neg e] at h2
  by_cases e2:k=k0
  ·have:=(List.getElem?_eq_some_iff.1 h2).1
   exact absurd ⟨e2,by omega⟩ e
  exact .inr ⟨by simp [e2,h1],h2⟩
def xB (q:Nat) (av:AV) (H0 H1:az):Bool:=
 bj H1.length av && H1.all (fun | .own c=>c.all (bj H1.length) | .bf _ _=>false | _=>true) && decide (q≤H1.length) && decide (q≤H0.length) && cQ (H0.take q) H1 && (H0.drop q).all (fun b=>!b.AX) && H0.all cf
theorem Rel.zY (R:Rel C m s tmps w) {q:Nat} {ks:List Nat} {H0 H1:az} {r:AV} {w' : World} {v:Value} {m' : Map} (hle:dQ ks s.H ks H0) (hks:∀ k∈ks,k < s.H.length) (R1:Rel (iA C m s.H ks H0 w) m' ⟨1,[(0,r)],H1++aR 0 q⟩ #[v] w') (bD:xB q r H0 H1=true) :
  ∃ m2,Rel C m2 { s with H:=dE (cC s.H (ks.drop q)) (ks.take q) (H1.map (aH.aY (ks.take q++List.range' s.H.length (H1.length - q)))) } tmps w' ∧
   aG (Reads (OK C m2 (dE (cC s.H (ks.drop q)) (ks.take q) (H1.map (aH.aY (ks.take q++List.range' s.H.length (H1.length - q))))) w') w') m2 (dE (cC s.H (ks.drop q)) (ks.take q) (H1.map (aH.aY (ks.take q++List.range' s.H.length (H1.length - q))))) (Go.Pv.aY (ks.take q++List.range' s.H.length (H1.length - q)) r) v∧∀ k,k < s.H.length→m2 k=m k:=by
 obtain ⟨g1,g2⟩:=hle.get
 unfold xB at bD
 rw [Bool.and_eq_true,Bool.and_eq_true,Bool.and_eq_true,Bool.and_eq_true,Bool.and_eq_true,Bool.and_eq_true,decide_eq_true_eq,decide_eq_true_eq] at bD
 obtain ⟨⟨⟨⟨⟨⟨s1,s2⟩,s3⟩,s6⟩,s4⟩,s7⟩,s5⟩:=bD
 have hn:q≤H1.length:=s3
 have hqk:q≤ks.length:=by omega
 have hkt:∀ k∈ks.take q,k∈ks:=fun k h=>List.mem_of_mem_take h
 have htl:(ks.take q).length=q:=by rw [List.length_take]; omega
 generalize hσe:ks.take q++List.range' s.H.length (H1.length - q)=σ
 have hσlen:σ.length=H1.length:=by rw [← hσe,List.length_append,htl,List.length_range']; omega
 generalize hH2:dE (cC s.H (ks.drop q)) (ks.take q) (H1.map (aH.aY σ))=H2
 have hlen2:H2.length=s.H.length + (H1.length - q):=by rw [← hH2,nR _ _ _ (by rw [htl,List.length_map]; exact hn),bA,htl]; simp
 have hm1:∀ j,j < q→m' j=bV m ks j:=fun j hj=>by
  have h:(H1++aR 0 q)[H1.length + j]? = some (.bf j j):=by
   rw [List.getElem?_append_right (by omega),Nat.add_sub_cancel_left,xP _ _ _ hj,Nat.zero_add]
  exact (R1.mp.2.2.1 _ _ _ h).2
 obtain ⟨m2,hm2⟩:∃ m2:Map,m2=fun k=>if k < s.H.length then m k else m' (q + (k - s.H.length)):=⟨_,rfl⟩
 have hmo:∀ k,k < s.H.length→m2 k=m k:=fun k h=>by rw [hm2]; simp [h]
 have hσ:∀ (j k:Nat),σ[j]? = some k→k < H2.length∧m2 k=m' j:=by
  intro j k h
  rw [← hσe] at h
  by_cases hj:j < q
  ·rw [List.getElem?_append_left (by omega)] at h
   rw [List.getElem?_take,if_pos hj] at h
   have hk:=hks k (List.mem_of_getElem? h)
   refine ⟨by omega,?_⟩
   rw [hmo k hk,hm1 j (by omega)]
   simp only [bV,h,Option.bind_some]
  rw [List.getElem?_append_right (by omega),htl] at h
  have hj2:j - q < H1.length - q:=by
   have:=(List.getElem?_eq_some_iff.1 h).1
   simpa using this
  rw [List.getElem?_range' hj2] at h
  simp only [Option.some.injEq,Nat.one_mul] at h
  subst h
  refine ⟨by omega,?_⟩
  rw [hm2]
  simp only
  rw [if_neg (by omega)]
  congr 1
  omega
 have hσ2:∀ k,k < σ.length→σ.getD k 0 < H2.length∧m2 (σ.getD k 0)=m' k:=fun k hk=>by
  have:σ[k]? = some (σ.getD k 0):=by simp [List.getD,List.getElem?_eq_getElem hk]
  exact hσ k _ this
 have aA:∀ (k:Nat) (b:aH),H2[k]? = some b→(∃ (j:Nat) (b' : aH),H1[j]? = some b'∧b=b'.aY σ∧σ[j]? = some k)∨(k < s.H.length∧k ∉ ks∧s.H[k]? = some b)∨b = .dead:=by
  intro k b h
  rw [← hH2] at h
  rcases uU (ks.take q) _ (cC s.H (ks.drop q)) k b (fun k hk=>by rw [bA]; exact hks k (hkt k hk)) (by rw [htl,List.length_map]; exact hn) h with ⟨j,h1,h2⟩ | ⟨h1,h2,h3⟩
  ·rw [List.length_map,htl,bA,hσe] at h2
   rw [List.getElem?_map] at h1
   cases e:H1[j]? with
   | none=>rw [e] at h1; cases h1
   | some b'=>rw [e] at h1; exact .inl ⟨j,b',e,(Option.some.inj h1).symm,h2⟩
  rcases rW _ _ h3 with ⟨_,e⟩ | ⟨g3,g4⟩
  ·exact .inr (.inr e)
  refine .inr (.inl ⟨by rw [bA] at h1; exact h1,fun hk=>?_,g4⟩)
  rw [← List.take_append_drop q ks] at hk
  rcases List.mem_append.1 hk with hk | hk
  ·exact h2 hk
  exact g3 hk
 have hHc:∀ (j:Nat) (b:aH),H1[j]? = some b→(H1++aR 0 q)[j]? = some b:=fun j b h=>by
  rw [List.getElem?_append_left (List.getElem?_eq_some_iff.1 h).1]; exact h
 have hown:∀ (k:Nat) (c:List AV),H2[k]? = some (.own c)→(∃ (j:Nat) (c' : List AV),H1[j]? = some (.own c')∧c=c'.map (Go.Pv.aY σ)∧σ[j]? = some k)∨(k < s.H.length∧k ∉ ks∧s.H[k]? = some (.own c)):=by
  intro k c h
  rcases aA k _ h with ⟨j,b',h1,h2,h3⟩ | h | h
  ·cases b' with
   | own c'=>simp only [aH.aY,aH.own.injEq] at h2; exact .inl ⟨j,c',h1,h2,h3⟩
   | _=>cases h2
  ·exact .inr h
  cases h
 have hmps:∀ (k:Nat) (kk:IntKind) (d:Int→Bool) (vv:Int→PV),H2[k]? = some (.mp kk d vv)→(∃ j:Nat,H1[j]? = some (.mp kk d vv)∧σ[j]? = some k)∨(k < s.H.length∧k ∉ ks∧s.H[k]? = some (.mp kk d vv)):=by
  intro k kk d vv h
  rcases aA k _ h with ⟨j,b',h1,h2,h3⟩ | h | h
  ·cases b' with
   | mp kk' d' v'=>simp only [aH.aY,aH.mp.injEq] at h2; obtain ⟨rfl,rfl,rfl⟩:=h2; exact .inl ⟨j,h1,h3⟩
   | _=>cases h2
  ·exact .inr h
  cases h
 have hfro:∀ (k:Nat) (c:List PV),H2[k]? = some (.fro c)→(∃ j:Nat,H1[j]? = some (.fro c)∧σ[j]? = some k)∨(k < s.H.length∧k ∉ ks∧s.H[k]? = some (.fro c)):=by
  intro k c h
  rcases aA k _ h with ⟨j,b',h1,h2,h3⟩ | h | h
  ·cases b' with
   | fro c'=>simp only [aH.aY,aH.fro.injEq] at h2; subst h2; exact .inl ⟨j,h1,h3⟩
   | _=>cases h2
  ·exact .inr h
  cases h
 have lent:∀ (j:Nat) (b0:aH) (l:Loc),H0[j]? = some b0→b0.wr=true→bV m ks j=some l→∃ k' b,k'∈ks∧s.H[k']? = some b∧b.wr=true∧m k' = some l∧((∃ c,b0 = .own c)→∃ c,b = .own c)∧((∃ kk d v,b0 = .mp kk d v)→∃ kk d v,b = .mp kk d v):=by
  intro j b0 l h hw hl
  obtain ⟨k',b,a1,a2,a3,a4,a5⟩:=hle.wr h hw
  simp only [bV,a1,Option.bind_some] at hl
  exact ⟨k',b,List.mem_of_getElem? a1,a2,a3,hl,a4,a5⟩
 have hB1:∀ b,(iA C m s.H ks H0 w).B b→C.B b:=by
  intro b hb
  rcases hb with hb | ⟨j,b0,l,h1,h2,h3,rfl⟩
  ·exact R.base b hb
  obtain ⟨k',b,_,a2,a3,a4,_⟩:=lent j b0 l h1 h2 h3
  exact (R.qZ a2 a3 a4).1
 have hBx:∀ (k:Nat) (b:aH) (l:Loc),k ∉ ks→s.H[k]? = some b→b.wr=true→m k=some l→¬ (iA C m s.H ks H0 w).B l.g:=by
  intro k b l hk hb hw hl hB
  rcases hB with hB | ⟨j,b0,l0,h1,h2,h3,h4⟩
  ·have:=(R.qZ hb hw hl).2
   omega
  obtain ⟨k',b',a1,a2,a3,a4,_⟩:=lent j b0 l0 h1 h2 h3
  have:=R.I9 hb hw a2 a3 hl a4 h4.symm
  subst this
  exact hk a1
 have hcell:∀ b o x,OK C m s.H w b→w.cell? ⟨b,o,none⟩=some x→w'.cell? ⟨b,o,none⟩=some x:=by
  intro b o x hb hc
  by_cases hB:(iA C m s.H ks H0 w).B b
  ·exfalso
   rcases hB with hB | ⟨j,b0,l0,h1,h2,h3,h4⟩
   ·have:=hb.2.1; omega
   obtain ⟨k',b',a1,a2,a3,a4,_⟩:=lent j b0 l0 h1 h2 h3
   cases b' with
   | own c=>exact hb.2.2 k' c l0 a2 a4 h4
   | mp kk d vv =>
    obtain ⟨l',ar,clk,vs,c1,c2,c3,_⟩:=R.mp.1 k' kk d vv a2
    rw [a4] at c1; cases c1
    rw [h4] at c3
    unfold World.cell? at hc
    simp only [c3] at hc
    first|cases hc|simp at hc
   | lp rr =>
    obtain ⟨l',c1,c2,c3⟩:=R.mp.2.2.2.1 k' rr a2
    rw [a4] at c1; cases c1
    rw [h4] at c3
    unfold World.cell? at hc
    simp only [c3] at hc
    first|cases hc|simp at hc
   | _=>cases a3
  rw [World.cell?_of_block (w:=w) (R1.below.block b hB)]; exact hc
 have hOK:∀ b,OK (iA C m s.H ks H0 w) m' (H1++aR 0 q) w' b→OK C m2 H2 w' b:=by
  intro b hb
  refine ⟨?_,hb.2.1,fun k c l h hl=>?_⟩
  ·rcases hb.1 with h | h
   ·exact h.1
   exact .inr (hB1 b h)
  rcases hown k c h with ⟨j,c',h1,_,h3⟩ | ⟨h1,h2,h3⟩
  ·rw [(hσ j k h3).2] at hl
   exact hb.2.2 j c' l (hHc _ _ h1) hl
  rw [hmo k h1] at hl
  rcases hb.1 with h' | h'
  ·exact h'.2.2 k c l h3 hl
  intro e
  exact hBx k _ l h2 h3 rfl hl (by rw [e]; exact h')
 have hsp:∀ (j:Nat) (b:aH),H0[j]? = some b→b.AX=true→j < q:=fun j b h hb=>by
  refine Nat.lt_of_not_le fun hq=>?_
  have h2:(H0.drop q)[j - q]? = some b:=by rw [List.getElem?_drop,show q + (j - q)=j by omega]; exact h
  have:=(List.all_eq_true.1 s7) _ (List.mem_of_getElem? h2)
  rw [hb] at this; cases this
 have ho1:∀ b,OK C m s.H w b→OK C m2 H2 w' b:=by
  intro b hb
  refine ⟨hb.1,Nat.lt_of_lt_of_le hb.2.1 R1.below.size,fun k c l h hl e=>?_⟩
  rcases hown k c h with ⟨j,c',h1,_,h3⟩ | ⟨h1,h2,h3⟩
  ·rw [(hσ j k h3).2] at hl
   rcases (R1.qZ (hHc _ _ h1) rfl hl).1 with hB | ⟨j0,b0,l0,a1,a2,a3,a4⟩
   ·have:=hb.2.1; omega
   obtain ⟨k',b',d1,d2,d3,d4,d5,d6⟩:=lent j0 b0 l0 a1 a2 a3
   cases b0 with
   | own c0 =>
    obtain ⟨c1,rfl⟩:=d5 ⟨_,rfl⟩
    exact hb.2.2 k' c1 l0 d2 d4 (by rw [a4,e])
   | mp kk d vv =>
    have hj0:=hsp j0 _ a1 rfl
    obtain ⟨kk',d',v',f1⟩:=pU s4 j0 kk d vv (by rw [List.getElem?_take,if_pos hj0]; exact a1)
    have f2:m' j0=some l0:=by rw [hm1 j0 hj0]; exact a3
    exact (R1.sj (hHc _ _ f1) f2).2.2 j c' l (hHc _ _ h1) hl a4.symm
   | lp rr =>
    have hj0:=hsp j0 _ a1 rfl
    obtain ⟨r1,f1⟩:=ry s4 j0 rr (by rw [List.getElem?_take,if_pos hj0]; exact a1)
    have f2:m' j0=some l0:=by rw [hm1 j0 hj0]; exact a3
    exact (R1.zf (hHc _ _ f1) f2).2.2 j c' l (hHc _ _ h1) hl a4.symm
   | _=>cases a2
  rw [hmo k h1] at hl
  exact hb.2.2 k c l h3 hl e
 have rd1:∀ p x,Reads (OK C m s.H w) w p x→Reads (OK C m2 H2 w') w' p x:=fun p x h=>h.FU ho1 hcell
 have rd2:∀ p x,Reads (OK (iA C m s.H ks H0 w) m' (H1++aR 0 q) w') w' p x→Reads (OK C m2 H2 w') w' p x:=fun p x h=>h.mono hOK
 have hlen3:s.H.length≤H2.length:=by omega
 have sall:∀ (j:Nat) (b:aH),H1[j]? = some b→(match b with | .own c=>c.all (bj H1.length) | .bf _ _=>false | _=>true)=true:=fun j b h=>by
  have:=(List.all_eq_true.1 s2) _ (List.mem_of_getElem? h)
  cases b<;>exact this
 refine ⟨m2,⟨R.laid.ext rd1,R.below.trans ⟨R1.below.os,R1.below.tape,R1.below.output,R1.below.size,fun k hk=>R1.below.block k fun h=>hk (hB1 k h),R1.below.dr⟩,fun b h=>R.base b (Nat.le_trans R1.below.size h),R.size,?_,?_,?_,fun t=>?_,?_,?_,?_,?_⟩,?_,hmo⟩
 ·intro k k' c c' l l' h1 h2 h3 h4 h5
  rcases hown k c h1 with ⟨j,d,a1,_,a3⟩ | ⟨a1,a2,a3⟩<;>rcases hown k' c' h2 with ⟨j',d',b1,_,b3⟩ | ⟨b1,b2,b3⟩
  ·rw [(hσ _ _ a3).2] at h3; rw [(hσ _ _ b3).2] at h4
   have:=R1.inj j j' d d' l l' (hHc _ _ a1) (hHc _ _ b1) h3 h4 h5
   subst this
   rw [a3] at b3
   exact Option.some.inj b3
  ·rw [(hσ _ _ a3).2] at h3; rw [hmo _ b1] at h4
   exact absurd (by rw [← h5]; exact (R1.qZ (hHc _ _ a1) rfl h3).1) (hBx k' _ l' b2 b3 rfl h4)
  ·rw [hmo _ a1] at h3; rw [(hσ _ _ b3).2] at h4
   exact absurd (by rw [h5]; exact (R1.qZ (hHc _ _ b1) rfl h4).1) (hBx k _ l a2 a3 rfl h3)
  rw [hmo _ a1] at h3; rw [hmo _ b1] at h4
  exact R.inj k k' c c' l l' a3 b3 h3 h4 h5
 ·intro k c h
  rcases hown k c h with ⟨j,c',a1,rfl,a3⟩ | ⟨a1,a2,a3⟩
  ·rcases R1.blk j c' (hHc _ _ a1) with ⟨e,hn⟩ | ⟨l,cur,e,b1,b2,b3,b4,b5,b6,b7⟩
   ·exact .inl ⟨by rw [e]; rfl,by rw [(hσ _ _ a3).2]; exact hn⟩
   refine .inr ⟨l,cur,e,by rw [(hσ _ _ a3).2]; exact b1,hB1 _ b2,b3,b4,b5,by simpa using b6,fun i hi=>?_⟩
   rw [List.length_map] at hi
   rw [List.getElem_map]
   have hs:bj σ.length c'[i]=true:=by
    rw [hσlen]
    exact (List.all_eq_true.1 (sall j _ a1)) _ (List.getElem_mem hi)
   exact (b7 i hi).sig rd2 hσ2 hs
  refine (R.blk k c a3).ext rd1 hlen3 hmo (hmo k a1) fun l hl=>R1.below.block _ (hBx k _ l a2 a3 rfl hl)
 ·intro k c h
  rcases hfro k c h with ⟨j,a1,a3⟩ | ⟨a1,a2,a3⟩
  ·rcases R1.fro j c (hHc _ _ a1) with ⟨e1,e2⟩ | ⟨l,vs,e1,e2,e3,e4⟩
   ·exact .inl ⟨e1,by rw [(hσ _ _ a3).2]; exact e2⟩
   exact .inr ⟨l,vs,by rw [(hσ _ _ a3).2]; exact e1,hOK _ e2,e3,fun i hi=>⟨(e4 i hi).1,rd2 _ _ (e4 i hi).2⟩⟩
  rcases R.fro k c a3 with ⟨e1,e2⟩ | ⟨l,vs,e1,e2,e3,e4⟩
  ·exact .inl ⟨e1,by rw [hmo k a1]; exact e2⟩
  exact .inr ⟨l,vs,by rw [hmo k a1]; exact e1,ho1 _ e2,e3,fun i hi=>⟨hcell _ _ _ e2 (e4 i hi).1,rd1 _ _ (e4 i hi).2⟩⟩
 ·exact (R.slot t).ext rd1 hlen3 hmo
 ·intro k kk d vv h
  rcases hmps k kk d vv h with ⟨j,a1,a3⟩ | ⟨a1,a2,a3⟩
  ·obtain ⟨l,ar,clk,vs,b1,b2,b3,b4,b5,b6,b7⟩:=R1.mp.1 j kk d vv (hHc _ _ a1)
   exact ⟨l,ar,clk,vs,by rw [(hσ _ _ a3).2]; exact b1,hB1 _ b2,b3,b4,b5,b6,fun z hz=>rd2 _ _ (b7 z hz)⟩
  obtain ⟨l,ar,clk,vs,b1,b2,b3,b4,b5,b6,b7⟩:=R.mp.1 k kk d vv a3
  exact ⟨l,ar,clk,vs,by rw [hmo k a1]; exact b1,b2,by rw [R1.below.block _ (hBx k _ l a2 a3 rfl b1)]; exact b3,b4,b5,b6,fun z hz=>rd1 _ _ (b7 z hz)⟩
 ·intro k k' kk d vv kk' d' v' l l' h1 h2 h3 h4 h5
  rcases hmps k kk d vv h1 with ⟨j,a1,a3⟩ | ⟨a1,a2,a3⟩<;>rcases hmps k' kk' d' v' h2 with ⟨j',b1,b3⟩ | ⟨b1,b2,b3⟩
  ·rw [(hσ _ _ a3).2] at h3; rw [(hσ _ _ b3).2] at h4
   have:=R1.mp.2.1 _ _ _ _ _ _ _ _ _ _ (hHc _ _ a1) (hHc _ _ b1) h3 h4 h5
   subst this
   rw [a3] at b3
   exact Option.some.inj b3
  ·rw [(hσ _ _ a3).2] at h3; rw [hmo _ b1] at h4
   exact absurd (by rw [← h5]; exact (R1.qZ (hHc _ _ a1) rfl h3).1) (hBx k' _ l' b2 b3 rfl h4)
  ·rw [hmo _ a1] at h3; rw [(hσ _ _ b3).2] at h4
   exact absurd (by rw [h5]; exact (R1.qZ (hHc _ _ b1) rfl h4).1) (hBx k _ l a2 a3 rfl h3)
  rw [hmo _ a1] at h3; rw [hmo _ b1] at h4
  exact R.mp.2.1 _ _ _ _ _ _ _ _ _ _ a3 b3 h3 h4 h5
 ·intro k i j h
  rcases aA k _ h with ⟨j',b',h1,h2,_⟩ | ⟨a1,a2,a3⟩ | h
  ·have:=sall j' b' h1
   cases b' with
   | bf _ _=>cases this
   | _=>cases h2
  ·obtain ⟨c1,c2⟩:=R.mp.2.2.1 k i j a3
   exact ⟨by simp only; omega,by rw [hmo j c1]; exact c2⟩
  cases h
 ·have hlps:∀ (k:Nat) (r:Loop),H2[k]? = some (.lp r)→(∃ j:Nat,H1[j]? = some (.lp r)∧σ[j]? = some k)∨(k < s.H.length∧k ∉ ks∧s.H[k]? = some (.lp r)):=by
   intro k r h
   rcases aA k _ h with ⟨j,b',h1,h2,h3⟩ | h | h
   ·cases b' with
    | lp r'=>simp only [aH.aY,aH.lp.injEq] at h2; obtain rfl:=h2; exact .inl ⟨j,h1,h3⟩
    | _=>cases h2
   ·exact .inr h
   cases h
  constructor
  ·intro k r h
   rcases hlps k r h with ⟨j,a1,a3⟩ | ⟨a1,a2,a3⟩
   ·obtain ⟨l,b1,b2,b3⟩:=R1.mp.2.2.2.1 j r (hHc _ _ a1)
    exact ⟨l,by rw [(hσ _ _ a3).2]; exact b1,hB1 _ b2,b3⟩
   obtain ⟨l,b1,b2,b3⟩:=R.mp.2.2.2.1 k r a3
   exact ⟨l,by rw [hmo k a1]; exact b1,b2,by rw [R1.below.block _ (hBx k _ l a2 a3 rfl b1)]; exact b3⟩
  intro k k' r r' l l' h1 h2 h3 h4 h5
  rcases hlps k r h1 with ⟨j,a1,a3⟩ | ⟨a1,a2,a3⟩<;>rcases hlps k' r' h2 with ⟨j',b1,b3⟩ | ⟨b1,b2,b3⟩
  ·rw [(hσ _ _ a3).2] at h3; rw [(hσ _ _ b3).2] at h4
   have:=R1.mp.2.2.2.2 _ _ _ _ _ _ (hHc _ _ a1) (hHc _ _ b1) h3 h4 h5
   subst this
   rw [a3] at b3
   exact Option.some.inj b3
  ·rw [(hσ _ _ a3).2] at h3; rw [hmo _ b1] at h4
   exact absurd (by rw [← h5]; exact (R1.qZ (hHc _ _ a1) rfl h3).1) (hBx k' _ l' b2 b3 rfl h4)
  ·rw [hmo _ a1] at h3; rw [(hσ _ _ b3).2] at h4
   exact absurd (by rw [h5]; exact (R1.qZ (hHc _ _ b1) rfl h4).1) (hBx k _ l a2 a3 rfl h3)
  rw [hmo _ a1] at h3; rw [hmo _ b1] at h4
  exact R.mp.2.2.2.2 _ _ _ _ _ _ a3 b3 h3 h4 h5
 have:=R1.slot 0
 exact aG.sig rd2 hσ2 this (by rw [hσlen]; exact s1)
theorem yX (H:az):cC H []=H:=rfl
theorem Rel.EK (R:Rel C m s tmps w) {ks:List Nat} {H0 H1:az} {r:AV} {w' : World} {v:Value} {m' : Map} (hle:dQ ks s.H ks H0) (hks:∀ k∈ks,k < s.H.length) (R1:Rel (iA C m s.H ks H0 w) m' ⟨1,[(0,r)],H1++aR 0 H0.length⟩ #[v] w') (bD:Cu r H0 H1=true) :
  ∃ m2,Rel C m2 { s with H:=dE s.H ks (H1.map (aH.aY (ks++List.range' s.H.length (H1.length - ks.length)))) } tmps w' ∧
   aG (Reads (OK C m2 (dE s.H ks (H1.map (aH.aY (ks++List.range' s.H.length (H1.length - ks.length))))) w') w') m2 (dE s.H ks (H1.map (aH.aY (ks++List.range' s.H.length (H1.length - ks.length))))) (Go.Pv.aY (ks++List.range' s.H.length (H1.length - ks.length)) r) v:=by
 have g1:=(hle.get).1
 have h:=R.zY (q:=H0.length) hle hks R1 (by
  unfold Cu at bD
  unfold xB
  rw [Bool.and_eq_true,Bool.and_eq_true,Bool.and_eq_true,Bool.and_eq_true] at bD
  obtain ⟨⟨⟨⟨s1,s2⟩,s3⟩,s4⟩,s5⟩:=bD
  rw [s1,s2,s3,s5,List.take_length,s4,List.drop_length]; simp)
 rw [← g1,List.take_length,List.drop_length,yX] at h
 obtain ⟨m2,h1,h2,_⟩:=h
 exact ⟨m2,h1,h2⟩
def yC (H:az) (ks:List Nat) (x a:AV):Prop:=
 match a with
 | .p pv=>(match bH H x with | some (p,pv',true)=>p∧pv' = pv | _=>False)
 | a=>x=Go.Pv.aY ks a∧bj ks.length a=true
def nF (H:az) (ks:List Nat):List AV→List AV→Prop
 | x :: xs,a :: avs=>yC H ks x a∧nF H ks xs avs
 | [],[]=>True
 | _,_=>False
theorem iG (R:Rel C m s tmps w) {rd' : PV→Value→Prop} {ks:List Nat} {H0:az} (h1:∀ p v,Reads (OK C m s.H w) w p v→rd' p v) (hl:H0.length=ks.length):∀ (X avs:List AV) (f:Nat→Value),nF s.H ks X avs→(∀ i (h:i < X.length),aG (Reads (OK C m s.H w) w) m s.H X[i] (f i)) →
  avs.length=X.length∧∀ i (h:i < avs.length),aG rd' (bV m ks) H0 avs[i] (f i)
 | [],[],f,_,_=>⟨rfl,fun i h=>by simp at h⟩
 | x :: xs,a :: avs,f,h,hv=>by
  obtain ⟨k1,k2⟩:=iG R h1 hl xs avs (fun i=>f (i + 1)) h.2 fun i hi=>by have:=hv (i + 1) (by simp; omega); rwa [List.getElem_cons_succ] at this
  refine ⟨by simp [k1],fun i hi=>?_⟩
  cases i with
  | succ i=>simpa using k2 i (by simpa using hi)
  | zero =>
   have hx:=hv 0 (by simp)
   simp only [List.getElem_cons_zero] at hx ⊢
   have h0:=h.1
   unfold yC at h0
   split at h0
   ·rename_i pv
    split at h0
    ·rename_i p pv' hp
     obtain ⟨g1,rfl⟩:=h0
     exact .p _ _ (h1 _ _ ((fb R hx hp g1).2 rfl))
    exact h0.elim
   obtain ⟨rfl,bD⟩:=h0
   exact hx.rX h1 hl bD
 | [],_ :: _,_,h,_=>h.elim
 | _ :: _,[],_,h,_=>h.elim
theorem pC {o:Oper} {fo:Operand} {args:Array Operand} {ts:Array TypeId} (ho:o.op = .call { callee:=.value fo,args:=args,argTypes:=ts }) {g:FuncId} {cap:List PV} (hfo:s.ev fo = .p (.fn g cap)) {ks:List Nat} {avs:List AV} {H0 H1:az} {r:AV}
  (hc:zI P g avs H0 r H1) (hargs:nF s.H ks (args.toList.map s.ev++cap.map .p) avs) (hle:dQ ks s.H ks H0) (hnd:ks.Nodup) (hks:ks.all (fun k=>decide (k < s.H.length))=true) (bD:Cu r H0 H1=true) :
  bu P o s (Go.Pv.aY (ks++List.range' s.H.length (H1.length - ks.length)) r) (dE s.H ks (H1.map (aH.aY (ks++List.range' s.H.length (H1.length - ks.length))))):=by
 intro C m a w K Q R hK
 have hks' : ∀ k∈ks,k < s.H.length:=fun k hk=>by simpa using (List.all_eq_true.1 hks) k hk
 have hfv:=R.ev fo
 rw [hfo] at hfv
 generalize hfe:a.eval fo=fv at hfv
 have hfv:=hfv.aN
 cases hfv with
 | fn _ _ vs hcl hcr =>
  obtain ⟨⟨fn,hfn,hnm,hbd⟩,hcalls⟩:=hc
  have hrun:(execOp a.eval o).run P w = .ok (.enter g (args.map a.eval++vs)) w:=by
   have hnm' : ¬ fn.name = "runtime.NumGoroutine":=by simpa using hnm
   have hbd' : ¬ fn.body=none:=by intro e; rw [e] at hbd; simp at hbd
   simp [execOp,ho,resolve,hfe,Deferred.ofValue,invoke,callFunc,hfn,hnm',hbd']
  refine aW (by first|rfl|(rw [ho]; rfl)) ?_
  unfold Oper.wp
  rw [hrun]
  simp only [Oper.upon]
  obtain ⟨g1,g2⟩:=hle.get
  have ho1:∀ b,OK C m s.H w b→OK (iA C m s.H ks H0 w) (bV m ks) H0 w b:=by
   refine fun b h=>⟨.inl h,h.2.1,fun k c l hk hl=>?_⟩
   obtain ⟨k',d,a1,a2,_⟩:=dQ.own g2 k c hk
   simp only [bV,a1,Option.bind_some] at hl
   exact h.2.2 k' _ l a2 hl
  obtain ⟨e1,e2⟩:=iG R (rd':=Reads (OK (iA C m s.H ks H0 w) (bV m ks) H0 w) w) (H0:=H0) (fun p v h=>h.mono ho1) g1.symm _ avs (fun i=>(args.map a.eval++vs).getD i undef) hargs fun i hi=>by
   simp only [List.length_append,List.length_map,Array.length_toList] at hi
   by_cases hip:i < args.size
   ·rw [List.getElem_append_left (by simpa using hip)]
    simp only [Array.getD_eq_getD_getElem?]
    rw [Array.getElem?_append_left (by simpa using hip)]
    have:=R.ev args[i]
    simpa [Array.getElem?_eq_getElem hip] using this
   rw [List.getElem_append_right (by simp; omega)]
   simp only [Array.getD_eq_getD_getElem?]
   rw [Array.getElem?_append_right (by simp; omega)]
   simp only [List.getElem_map,List.length_map,Array.length_toList,Array.size_map]
   have:=hcr (i - args.size) (by omega)
   rw [Array.getD_eq_getD_getElem?] at this
   exact .p _ _ this
  have hsz:(args.map a.eval++vs).size=avs.length:=by
   rw [e1]; simp; omega
  have s5:H0.all cf=true:=by
   unfold Cu at bD
   rw [Bool.and_eq_true] at bD
   exact bD.2
  have R0:Rel (iA C m s.H ks H0 w) (bV m ks) ⟨avs.length,cK 0 avs,H0⟩ (args.map a.eval++vs) w:=by
   refine R.oB (s1:=⟨avs.length,cK 0 avs,H0⟩) hsz hnd hle ho1 (ca.refl _ _) (fun b h=>.inl h) (fun k b l h hw hl _=>.inr ⟨k,b,l,h,hw,hl,rfl⟩) (fun k i j h=>?_) fun t=>?_
   ·exact absurd rfl (fB ((List.all_eq_true.1 s5) _ (List.mem_of_getElem? h)) i j)
   unfold St.get
   simp only
   rw [gR,if_pos (Nat.zero_le _),Nat.sub_zero]
   by_cases ht:t < avs.length
   ·have:=e2 t ht
    simpa [List.getD,List.getElem?_eq_getElem ht] using this
   rw [List.getD_eq_getElem?_getD,List.getElem?_eq_none (by omega)]
   exact .dead _
  have R0':=R0.tx (n:=H0.length) (Nat.le_refl _) fun i _=>rfl
  refine (hcalls _ _ w _ R0').mono fun e w' ⟨v,m',he,R1⟩=>?_
  subst he
  obtain ⟨m2,R2,hv⟩:=R.EK hle hks' R1 bD
  exact hK v m2 w' R2 hv
end
open Go.RowKit
section
variable {P:Program} {T:TypeId→Option TI} {s:St}
theorem xo {draw:Bool} {all:Array Oper} {K:St→Prop} (n:Nat) {l:List Oper} (h:dL P draw all (l.take n) (fun s'=>dL P draw all (l.drop n) K s') s):dL P draw all l K s:=by
 have gen:∀ (l1 l2:List Oper) (s s1 s2:St),iz P draw all l1 s s1→iz P draw all l2 s1 s2→iz P draw all (l1++l2) s s2:=by
  intro l1
  induction l1 with
  | nil=>intro l2 s s1 s2 h1 h2; cases h1; exact h2
  | cons o r ih=>intro l2 s s1 s2 h1 h2; cases h1 with | cons a b=>exact .cons a (ih l2 _ _ _ b h2)
 obtain ⟨s1,h1,s2,h2,hK⟩:=h
 exact ⟨s2,by have:=gen _ _ _ _ _ h1 h2; rwa [List.take_append_drop] at this,hK⟩
theorem iB (hT:∀ t ti,T t=some ti→bk P t=some ti) {o:Oper} {t:TypeId} {n:Nat} {parts:Array (Nat × Operand)} (ho:o.op = .buildSlice t n parts) {ti te:TI} (ht:T t=some ti) {e:TypeId} (hk:ti.kind = .slice e) (hte:T e=some te) (hsz:te.size=1) (hzl:te.zero.length=1)
  {p:Prop} {l:List PV} (hp:iw 1 0 (parts.toList.map fun q=>(q.1,s.ev q.2))=some (p,l)) (hvc:p) (hl:l.length=n) (hn:n≤16777216) (hone:l.all PV.one=true):bu P o s (.sl s.H.length 0 n) (s.H++[.own (bq l)]):=by
 intro C m a w K Q R hK
 have hu:=bK (hT _ _ ht) hk
 obtain ⟨i,d,z,h1,h2,h3,h4,h5,h6,h7,h8⟩:=aZ (hT _ _ hte)
 have key:∀ z0:Array Value,∃ cs',(∀ x∈l,x.cells.length=1)∧Instr.fill (fun i=>some (i * 1,1)) ((Array.range (n * 1)).map (z0[· % z0.size]!)) (parts.toList.map fun q=>(q.1,a.eval q.2))=some cs'∧cs'.size=n * 1 ∧
   ∀ c (h:c < (flat l).length),Reads (OK C m s.H w) w (flat l)[c] (cs'.getD c undef):=by
  intro z0
  obtain ⟨k1,cs',k2,k3,_,k5⟩:=jf R 1 parts.toList 0 (cs:=(Array.range (n * 1)).map (z0[· % z0.size]!)) hp hvc (by simp [hl])
  exact ⟨cs',k1,k2,by rw [k3]; simp,fun c hc=>by have:=k5 c hc; rwa [Nat.zero_mul,Nat.zero_add] at this⟩
 obtain ⟨cs',k1,k2,k3,k5⟩:=key (if n * 1=0 then #[] else z.cells)
 have hss:=dy (hT _ _ hte) w
 rw [hsz] at hss
 have hfl0:=cD 1 l k1
 have hfl:flat l=l:=dK hone
 have hrun:(execOp a.eval o).run P w = .ok (.value (.slice (some ⟨w.heap.size,0,none⟩) n n)) (w.alloc (.cells cs' e)):=by
  have hpt:(parts.map fun q=>(q.1,a.eval q.2)).toList=parts.toList.map fun q=>(q.1,a.eval q.2):=by simp
  have hne:¬ (n * 1 > 2 ^ 24):=by omega
  by_cases hz:n * 1=0
  ·rw [if_pos hz] at k2
   simp only [execOp,ho,Instr.buildSlice,Sem.run_bind,run_underlying hu,Result.andThen_ok,hss,Sem.run_ite,hz,if_true,Sem.run_pure,newRow] at k2 ⊢
   simp only [hpt,k2,Sem.run_bind,run_newObj,Result.andThen_ok,Sem.run_pure]
   rfl
  rw [if_neg hz] at k2
  simp only [execOp,ho,Instr.buildSlice,Sem.run_bind,run_underlying hu,Result.andThen_ok,hss,Sem.run_ite,hne,if_false,hz,zeroValue,typeInfo,run_program,h1,h3,Sem.run_pure,newRow] at k2 ⊢
  simp only [hpt,k2,Sem.run_bind,run_newObj,Result.andThen_ok,Sem.run_pure]
  rfl
 have hrel:=R.kb (cm _) (cur:=cs') (e:=e) (heap_alloc_new w _) (lg (by rw [k3]; unfold maxLen; omega)) (c:=bq l) (by rw [aJ,k3]; omega) (by
  intro j hj
  rw [aJ] at hj
  have:=k5 j (by rw [hfl]; exact hj)
  simp only [hfl] at this
  simp only [bq,List.getElem_map]
  exact .p _ _ this)
 refine aW (by first|rfl|(rw [ho]; rfl)) ?_
 unfold Oper.wp
 rw [hrun]
 exact hK _ _ _ hrel (.sl _ _ _ _ (by simp) <| .inr ⟨⟨w.heap.size,0,cs'.size⟩,n,by simp [bR],by simp,Nat.le_refl _,by simp only; omega⟩)
theorem vf (hT:∀ t ti,T t=some ti→bk P t=some ti) {o:Oper} {t:TypeId} {x y z:Operand} (ho:o.op = .insert t x y z) {ti:TI} (ht:T t=some ti) {r:OV} (h:e9 T ti s.H (s.ev x) (s.ev y) (s.ev z)=some r) (hvc:r.vc):bu P o s r.av r.H:=by
 intro C m a w K Q R hK
 obtain ⟨v,w',m',hy,R',hv⟩:=jq hT R (o:={ o with op:=.mapUpdate t x y z }) rfl ht h hvc
 have:=hK v m' w' R' hv
 have e:execOp a.eval o=execOp a.eval { o with op:=.mapUpdate t x y z }:=by
  simp only [execOp,ho]
 rcases hy with hr | ⟨hr,rfl⟩
 ·refine aW (by first|rfl|(rw [ho]; rfl)) ?_; unfold Oper.wp; rw [e,hr]; exact this
 refine aW (by first|rfl|(rw [ho]; rfl)) ?_; unfold Oper.wp; rw [e,hr]; exact this
section
variable {C:Ctx} {m:Map} {tmps:Array Value} {w:World}
end
end
open Go.RowKit
section
variable {P:Program} {T:TypeId→Option TI} {s:St}
theorem wE {l:List PV} (h:∀ x∈l,x.cells.all PV.one=true):(flat l).all PV.one=true:=by
 induction l with
 | nil=>rfl
 | cons x r ih =>
  simp only [flat,List.all_append,Bool.and_eq_true]
  exact ⟨h x (by simp),ih fun y hy=>h y (by simp [hy])⟩
theorem uo (hT:∀ t ti,T t=some ti→bk P t=some ti) {o:Oper} {t:TypeId} {n:Nat} {parts:Array (Nat × Operand)} (ho:o.op = .buildSlice t n parts) {ti te:TI} (ht:T t=some ti) {e:TypeId} (hk:ti.kind = .slice e) (hte:T e=some te) {sz:Nat} (hsz:te.size=sz) (hzl:te.zero.length=sz)
  {p:Prop} {l:List PV} (hp:iw sz 0 (parts.toList.map fun q=>(q.1,s.ev q.2))=some (p,l)) (hvc:p) (hl:l.length=n) (hn:n * sz≤16777216):bu P o s (.sls s.H.length 0 n sz) (s.H++[.own (bq (flat l))]):=by
 intro C m a w K Q R hK
 have hu:=bK (hT _ _ ht) hk
 obtain ⟨i,d,z,h1,h2,h3,h4,h5,h6,h7,h8⟩:=aZ (hT _ _ hte)
 have key:∀ z0:Array Value,∃ cs',(∀ x∈l,x.cells.length=sz)∧Instr.fill (fun i=>some (i * sz,sz)) ((Array.range (n * sz)).map (z0[· % z0.size]!)) (parts.toList.map fun q=>(q.1,a.eval q.2))=some cs'∧cs'.size=n * sz ∧
   ∀ c (h:c < (flat l).length),Reads (OK C m s.H w) w (flat l)[c] (cs'.getD c undef):=by
  intro z0
  obtain ⟨k1,cs',k2,k3,_,k5⟩:=jf R sz parts.toList 0 (cs:=(Array.range (n * sz)).map (z0[· % z0.size]!)) hp hvc (by simp [hl])
  exact ⟨cs',k1,k2,by rw [k3]; simp,fun c hc=>by have:=k5 c hc; rwa [Nat.zero_mul,Nat.zero_add] at this⟩
 obtain ⟨cs',k1,k2,k3,k5⟩:=key (if n * sz=0 then #[] else z.cells)
 have hss:=dy (hT _ _ hte) w
 rw [hsz] at hss
 have hfl0:=cD sz l k1
 have hrun:(execOp a.eval o).run P w = .ok (.value (.slice (some ⟨w.heap.size,0,none⟩) n n)) (w.alloc (.cells cs' e)):=by
  have hpt:(parts.map fun q=>(q.1,a.eval q.2)).toList=parts.toList.map fun q=>(q.1,a.eval q.2):=by simp
  have hne:¬ (n * sz > 2 ^ 24):=by omega
  by_cases hz:n * sz=0
  ·rw [if_pos hz] at k2
   simp only [execOp,ho,Instr.buildSlice,Sem.run_bind,run_underlying hu,Result.andThen_ok,hss,Sem.run_ite,hz,if_true,Sem.run_pure,newRow] at k2 ⊢
   simp only [hpt,k2,Sem.run_bind,run_newObj,Result.andThen_ok,Sem.run_pure]
   rfl
  rw [if_neg hz] at k2
  simp only [execOp,ho,Instr.buildSlice,Sem.run_bind,run_underlying hu,Result.andThen_ok,hss,Sem.run_ite,hne,if_false,hz,zeroValue,typeInfo,run_program,h1,h3,Sem.run_pure,newRow] at k2 ⊢
  simp only [hpt,k2,Sem.run_bind,run_newObj,Result.andThen_ok,Sem.run_pure]
  rfl
 have hlen:(bq (flat l)).length=n * sz:=by rw [aJ,hfl0,hl]
 have hrel:=R.kb (cm _) (cur:=cs') (e:=e) (heap_alloc_new w _) (lg (by rw [k3]; unfold maxLen; omega)) (c:=bq (flat l)) (by rw [hlen,k3]; exact Nat.le_refl _) (by
  intro j hj
  rw [hlen] at hj
  have hj2:j < (flat l).length:=by rw [hfl0,hl]; exact hj
  have:=k5 j hj2
  simp only [bq,List.getElem_map]
  exact .p _ _ this)
 refine aW (by first|rfl|(rw [ho]; rfl)) ?_
 unfold Oper.wp
 rw [hrun]
 exact hK _ _ _ hrel (.sls _ _ _ _ _ (by simp) (.inr ⟨⟨w.heap.size,0,cs'.size⟩,n,by simp [bR],by simp,Nat.le_refl _,by simp only; omega⟩))
theorem mZ (hT:∀ t ti,T t=some ti→bk P t=some ti) {o:Oper} {t:TypeId} {x:Operand} (ho:o.op = .call { callee:=.builtin .len,args:=#[x],argTypes:=#[t] }) {ti:TI} (ht:T t=some ti) {e:TypeId} (hk:ti.kind = .slice e) {k lo len sz:Nat} (hx:s.ev x = .sls k lo len sz):bu P o s (.p (.int .i64 len)) s.H:=by
 intro C m a w K Q R hK
 have hu:=bK (hT _ _ ht) hk
 have hv:=R.ev x
 rw [hx] at hv
 generalize hev:a.eval x=v at hv
 cases hv with
 | sls _ _ _ _ _ hk' hs =>
  have hrun:(execOp a.eval o).run P w = .ok (.value (.int .i64 len)) w:=by
   obtain ⟨dst,op,type,pos,after,guard⟩:=o
   simp only at ho
   subst ho
   rcases hs with ⟨rfl,rfl⟩ | ⟨l,cap,hm,rfl,h1,h2⟩
   ·simp [BigFrame.execOp_builtin,BigFrame.builtin_len,Builtin.len_,hev,run_underlying hu,goInt]
   simp [BigFrame.execOp_builtin,BigFrame.builtin_len,Builtin.len_,hev,run_underlying hu,goInt]
  refine aW (by first|rfl|(rw [ho]; rfl)) ?_
  unfold Oper.wp
  rw [hrun]
  exact hK _ _ _ R (.p _ _ (.int _ _))
theorem zG (hT:∀ t ti,T t=some ti→bk P t=some ti) {o:Oper} {t:TypeId} {x y:Operand} (ho:o.op = .indexAddr t x y) {ti te:TI} (ht:T t=some ti) {e:TypeId} (hk:ti.kind = .slice e) (hte:T e=some te) {sz:Nat} (hsz:te.size=sz) {k lo len:Nat} (hx:s.ev x = .sls k lo len sz)
  {kk:IntKind} {i:Int} (hy:s.ev y = .p (.int kk i)) (h0:0≤i) (h1:i < (len:Int)):bu P o s (.ptr k (lo + i.toNat * sz)) s.H:=by
 intro C m a w K Q R hK
 have hu:=bK (hT _ _ ht) hk
 have hss:=dy (hT _ _ hte) w
 have hey:=eE R hy
 have hv:=R.ev x
 rw [hx] at hv
 generalize hev:a.eval x=v at hv
 cases hv with
 | sls _ _ _ _ _ hk' hs =>
  obtain ⟨l,cap,hm,rfl,h2,h3⟩:=hs.resolve_left fun h=>by omega
  have hrun:(execOp a.eval o).run P w = .ok (.value (.pointer (some ⟨l.g,l.o + lo + i.toNat * sz,none⟩))) w:=by
   simp [execOp,ho,hev,hey,Instr.indexAt,asIntOf,run_underlying hu,h0,h1,hss,hsz,add_lit]
  refine aW (by first|rfl|(rw [ho]; rfl)) ?_
  unfold Oper.wp
  rw [hrun]
  exact hK _ _ _ R (.ptr _ _ _ hk' ⟨l,hm,by rw [Nat.add_assoc]⟩)
theorem y7 (hT:∀ t ti,T t=some ti→bk P t=some ti) {o:Oper} {t:TypeId} {x y:Operand} (ho:o.op = .slice t x none (some y) none) {ti te:TI} (ht:T t=some ti) {e:TypeId} (hk:ti.kind = .slice e) (hte:T e=some te) {sz:Nat} (hsz:te.size=sz) {k lo len:Nat} (hx:s.ev x = .sls k lo len sz)
  {kk:IntKind} {i:Int} (hy:s.ev y = .p (.int kk i)) (h0:0≤i) (h1:i≤(len:Int)) (hp:0 < len):bu P o s (.sls k lo i.toNat sz) s.H:=by
 intro C m a w K Q R hK
 have hu:=bK (hT _ _ ht) hk
 have hss:=dy (hT _ _ hte) w
 have hv:=R.ev x
 rw [hx] at hv
 generalize hev:a.eval x=v at hv
 cases hv with
 | sls _ _ _ _ _ hk' hs =>
  obtain ⟨l,cap,hm,rfl,h2,h3⟩:=hs.resolve_left fun h=>by omega
  have hbd:=dN (P:=P) (len:=len) (cap:=cap) (lo:=none) (hi:=some y) R (p:=0) (q:=i) rfl (by simp [dS,hy]) (Int.le_refl _) h0 h1 h2
  have hrun:(execOp a.eval o).run P w = .ok (.value (.slice (some ⟨l.g,l.o + lo,none⟩) i.toNat cap)) w:=by
   simp only [Option.map_none,Option.map_some] at hbd
   simp [execOp,ho,hev,Instr.sliceAt,Instr.slice,run_underlying hu,hbd,hss,add_lit]
  refine aW (by first|rfl|(rw [ho]; rfl)) ?_
  unfold Oper.wp
  rw [hrun]
  exact hK _ _ _ R (.sls _ _ _ _ _ hk' (.inr ⟨l,cap,hm,rfl,by omega,h3⟩))
theorem r9 {w:World} {t e:TypeId} {i:TypeInfo} (ty:TypeId) (ht:P.underlying t=some (.slice e)) (hi:P.info? e=some i) {sz:Nat} (hsz:i.size=sz) {g q n cap k:Nat} {cur:Array Value} {e' : TypeId} (hg:w.heap[g]? = some (.cells cur e' (0,0)))
  {b:Addr} {cx:Nat} {news:List Value} (hl:news.length=k * sz) (hx:∀ j u,news[j]? = some u→w.cell? (b.add j)=some u) (h1:∀ u∈news,u.oneCell' = true) (hroom:n + k≤cap) (hfit:q + n * sz + k * sz≤cur.size) :
  (Builtin.append_ #[t,t] ty #[.slice (some ⟨g,q,none⟩) n cap,.slice (some b) k cx]).run P w =
   .ok (.slice (some ⟨g,q,none⟩) (n + k) cap) (w.setRow g (cur.toList.take (q + n * sz)++news++cur.toList.drop (q + n * sz + news.length)).toArray):=by
 have hf:=run_firstCells_some (P:=P) w sz k b k cx news hl hx
 have hst:=run_storeCells_at P g (q + n * sz) e' news 0 cur w hg (by omega) h1
 simp only [Nat.add_zero] at hst
 simp [Builtin.append_,run_underlying ht,sizeOf,typeInfo,hi,hsz,Builtin.lenOf,hroom,hf,Addr.add_lit,hst]
theorem zr (hT:∀ t ti,T t=some ti→bk P t=some ti) {o:Oper} {t:TypeId} {x y:Operand} (ho:o.op = .call { callee:=.builtin .append,args:=#[x,y],argTypes:=#[t,t] }) {ti te:TI} (ht:T t=some ti) {e:TypeId} (hk:ti.kind = .slice e) (hte:T e=some te) {sz:Nat} (hsz:te.size=sz) (hzl:te.zero.length=sz) (h0:0 < sz) (h64:sz≤64)
  {k lo len:Nat} {c:List AV} {l:List PV} (hx:s.ev x = .sls k lo len sz) (hg:aA s.H k = .own c) (hy:s.ev y = .p (.nn l)) (hls:∀ x∈l,x.cells.length=sz) (hone:∀ x∈l,x.cells.all PV.one=true) (hl0:0 < l.length) (hc:lo + len * sz≤c.length) (hok:((c.drop lo).take (len * sz)).all bm=true)
  (hb:(len + l.length) * te.bytes≤140737488355328) (hbig:(len + l.length) * sz≤1000000000000) (h63:len + l.length≤1000000000000):bu P o s (.sls s.H.length 0 (len + l.length) sz) (aF s.H k .dead++[.own ((c.drop lo).take (len * sz)++bq (flat l))]):=by
 intro C m a w K Q R hK
 have hu:=bK (hT _ _ ht) hk
 obtain ⟨i,d,z,h1,h2,h3,h4,h5,h6,h7,h8⟩:=aZ (hT _ _ hte)
 have hi:i.size=sz:=by rw [h4,hsz]
 have hz1:z.cells.size=sz:=by rw [← Array.length_toList,h6]; exact hzl
 have hkH:=bE hg
 have hflen:=cD sz l hls
 have hfone:=wE hone
 have hX:=R.ev x
 have hY:=R.ev y
 rw [hx] at hX
 rw [hy] at hY
 generalize hvx:a.eval x=vx at hX
 generalize hvy:a.eval y=vy at hY
 have hlen:((c.drop lo).take (len * sz)).length=len * sz:=by simp only [List.length_take,List.length_drop]; omega
 rcases hY.aN.iX with ⟨rfl,_⟩ | ⟨b,off,sz',vs,rfl,hbo,hsz',hcy,hry⟩
 ·simp at hl0
 have hnl:((List.range (l.length * sz)).map vs).length=l.length * sz:=by simp
 have hng:∀ j,j < l.length * sz→((List.range (l.length * sz)).map vs).getD j undef=vs j:=fun j hj=>by simp [List.getD,List.getElem?_map,List.getElem?_range hj]
 have hnx:∀ j u,((List.range (l.length * sz)).map vs)[j]? = some u→w.cell? ((⟨b,off,none⟩:Addr).add j)=some u:=fun j u hj=>by
  have hjl:j < l.length * sz:=by have:=(List.getElem?_eq_some_iff.1 hj).1; simpa using this
  simp only [List.getElem?_map,List.getElem?_range hjl,Option.map_some,Option.some.injEq] at hj
  subst hj
  rw [add_lit]; exact hcy j (by rw [hflen]; exact hjl)
 have hnv:∀ j (hj:j < (bq (flat l)).length),aG (Reads (OK C m s.H w) w) m s.H (bq (flat l))[j] (((List.range (l.length * sz)).map vs).getD j undef):=fun j hj=>by
  rw [aJ,hflen] at hj
  rw [hng j hj]
  simp only [bq,List.getElem_map]
  exact .p _ _ (hry j (by rw [hflen]; exact hj))
 have hone1:∀ u∈(List.range (l.length * sz)).map vs,u.oneCell' = true:=fun u hu=>by
  obtain ⟨j,hj,rfl⟩:=List.getElem_of_mem hu
  have hj2:j < l.length * sz:=by simpa using hj
  have h1:=hnv j (by rw [aJ,hflen]; exact hj2)
  have h2:bm ((bq (flat l))[j]'(by rw [aJ,hflen]; exact hj2))=true:=by
   simp only [bq,List.getElem_map,bm]
   exact (List.all_eq_true.1 hfone) _ (List.getElem_mem _)
  have e:((List.range (l.length * sz)).map vs).getD j undef=((List.range (l.length * sz)).map vs)[j]:=by simp [List.getD,List.getElem?_eq_getElem hj]
  rw [e] at h1
  exact (je h2 h1).1
 have yield:∀ v w',(Builtin.append_ #[t,t] o.type #[a.eval x,a.eval y]).run P w = .ok v w'→(execOp a.eval o).run P w = .ok (.value v) w':=by
  intro v w' hr
  obtain ⟨dst,op,type,pos,after,guard⟩:=o
  simp only at ho hr
  subst ho
  simp [BigFrame.execOp_builtin,BigFrame.builtin_append,hr]
 cases hX with
 | sls _ _ _ _ _ hk' hs =>
  rcases hs with ⟨rfl,rfl⟩ | ⟨l0,cap,hm,rfl,hc1,hc2⟩
  ·have hr:=run_append_nil (P:=P) (w:=w) t o.type e i z hu h1 h3 ⟨b,off,none⟩ l.length l.length _ (by rw [hnl,hi]) hnx hl0 (by omega) (by rw [h5]; rw [Nat.zero_add] at hb; omega)
   rw [hvx,hvy] at yield
   generalize hnews:(List.range (l.length * sz)).map vs=news at hr hnl hnv
   have hge:=grownCap_ge w l.length 0 e
   have hle:=grownCap_le_maxLen w l.length 0 e (by unfold maxLen; omega)
   obtain ⟨G,hG⟩:∃ G,grownCap w l.length 0 e=G:=⟨_,rfl⟩
   rw [hG] at hr hge hle
   have hGm:l.length * sz≤G * sz:=Nat.mul_le_mul_right _ (by omega)
   have hcs:(news.toArray++Builtin.zeroCells z.cells (G - l.length)).size=G * sz:=by
    simp only [Array.size_append,List.size_toArray,size_zeroCells,hz1,hnl,Nat.sub_mul]; omega
   refine aW (by first|rfl|(rw [ho]; rfl)) ?_
   unfold Oper.wp
   rw [yield _ _ hr]
   refine hK _ _ _ (R.mJ hkH (l':=⟨w.heap.size,0,G * sz⟩) ((bG _).G5 R.base) (fun b hb _=>(bG _).block b hb) (.inr (Nat.le_refl _)) (e:=e) (heap_alloc_new w.drew _) hcs ?_ ?_ ?_)
    (.sls _ _ _ _ _ (by simp [aB]) (.inr ⟨⟨w.heap.size,0,G * sz⟩,G,by simp [bR],by simp,by omega,by simp⟩))
   ·have:G * sz≤9223372036854775807 * 64:=Nat.mul_le_mul hle h64
    unfold Dv; simp only; omega
   ·simp only [List.length_append,hlen,aJ,hflen]; omega
   intro j hj
   simp only [List.length_append,hlen,aJ,hflen] at hj
   simp only [Nat.zero_add]
   have eg:(news.toArray++Builtin.zeroCells z.cells (G - l.length)).getD j undef=news.getD j undef:=by
    have:=qn (xs:=[]) (ys:=news) (zs:=(Builtin.zeroCells z.cells (G - l.length)).toList) (j:=j) (by simp only [List.length_nil]; omega)
    rw [Array.toArray_toList] at this
    simpa using this
   rw [eg,List.getElem_append_right (by omega)]
   have key:∀ k (hk:k < (bq (flat l)).length),k=j→aG (Reads (OK C m s.H w) w) m s.H (bq (flat l))[k] (news.getD j undef):=fun k hk e=>by
    subst e; exact hnv _ hk
   simp only [hlen]
   exact key _ _ (by omega)
  rcases R.blk k c hkH with ⟨_,hn⟩ | ⟨l',cur,e',hm2,hB,hh,hs1,hs3,hs2,hcells⟩
  ·rw [hm] at hn; cases hn
  rw [hm] at hm2; cases hm2
  by_cases hroom:len + l.length≤cap
  ·have hmul:(len + l.length) * sz≤cap * sz:=Nat.mul_le_mul_right _ hroom
   rw [Nat.add_mul] at hmul
   have hr:=r9 (P:=P) (w:=w) o.type hu h1 hi hh (n:=len) (cap:=cap) (q:=l0.o + lo) (cx:=l.length) hnl hnx hone1 hroom (by omega)
   rw [hvx,hvy] at yield
   have hcsz:(cur.toList.take (l0.o + lo + len * sz)++(List.range (l.length * sz)).map vs++cur.toList.drop (l0.o + lo + len * sz + ((List.range (l.length * sz)).map vs).length)).toArray.size=l0.n:=by
    simp only [List.size_toArray,List.length_append,List.length_take,List.length_drop,Array.length_toList,hnl]; omega
   refine aW (by first|rfl|(rw [ho]; rfl)) ?_
   unfold Oper.wp
   rw [yield _ _ hr]
   refine hK _ _ _ (R.mJ hkH (l':=⟨l0.g,l0.o + lo,l0.n⟩) ?_ (fun b hb hne=>setRow_other w l0.g b _ (hne l0 hm)) (.inl ⟨l0,hm,rfl⟩) (setRow_heap w l0.g cur _ e' _ hh) hcsz hs3 ?_ ?_)
    (.sls _ _ _ _ _ (by simp [aB]) (.inr ⟨⟨l0.g,l0.o + lo,l0.n⟩,cap,by simp [bR],rfl,by omega,by simp only; omega⟩))
   ·exact ⟨rfl,rfl,rfl,by simp [World.setRow],fun b hb=>setRow_other w l0.g b _ (fun e=>hb (by rw [e]; exact hB)),Nat.le_refl _⟩
   ·simp only [List.length_append,hlen,aJ,hflen]; omega
   intro j hj
   simp only [List.length_append,hlen,aJ,hflen] at hj
   dsimp only
   rw [ie (by rw [hnl,hs1]; omega)]
   by_cases hjl:j < len * sz
   ·rw [if_neg (by omega),List.getElem_append_left (by omega)]
    simp only [List.getElem_take,List.getElem_drop]
    have:=hcells (lo + j) (by omega)
    rwa [← Nat.add_assoc] at this
   rw [if_pos (by rw [hnl]; omega),List.getElem_append_right (by omega)]
   have:=hnv (j - len * sz) (by rw [aJ,hflen]; omega)
   simp only [hlen]
   rwa [show l0.o + lo + j - (l0.o + lo + len * sz)=j - len * sz by omega]
  have hol:((List.range (len * sz)).map fun j=>cur.getD (l0.o + lo + j) undef).length=len * sz:=by simp
  have hox:∀ j u,((List.range (len * sz)).map fun j=>cur.getD (l0.o + lo + j) undef)[j]? = some u→w.cell? ((⟨l0.g,l0.o + lo,none⟩:Addr).add j)=some u:=fun j u hj=>by
   have hjl:j < len * sz:=by have:=(List.getElem?_eq_some_iff.1 hj).1; simpa using this
   simp only [List.getElem?_map,List.getElem?_range hjl,Option.map_some,Option.some.injEq] at hj
   subst hj
   rw [add_lit]; exact cell_of hh (by omega)
  have hr:=run_append_grow (P:=P) w t o.type e i z hu h1 h3 ⟨l0.g,l0.o + lo,none⟩ len cap _ (by rw [hol,hi]) hox ⟨b,off,none⟩ l.length l.length _ (by rw [hnl,hi]) hnx (by omega) (by omega) (growslice_fits (by omega) (by rw [h5]; exact hb))
  rw [hvx,hvy] at yield
  generalize holds:(List.range (len * sz)).map (fun j=>cur.getD (l0.o + lo + j) undef)=olds at hr hol
  generalize hnews:(List.range (l.length * sz)).map vs=news at hr hnl hnv
  have hge:=grownCap_ge w (len + l.length) cap e
  have hle:=grownCap_le_maxLen w (len + l.length) cap e (by unfold maxLen; omega)
  obtain ⟨G,hG⟩:∃ G,grownCap w (len + l.length) cap e=G:=⟨_,rfl⟩
  rw [hG] at hr hge hle
  have hGm:(len + l.length) * sz≤G * sz:=Nat.mul_le_mul_right _ (by omega)
  rw [Nat.add_mul] at hGm
  have hcs:(olds.toArray++news.toArray++Builtin.zeroCells z.cells (G - (len + l.length))).size=G * sz:=by
   simp only [Array.size_append,List.size_toArray,size_zeroCells,hz1,hol,hnl,Nat.sub_mul,Nat.add_mul]; omega
  refine aW (by first|rfl|(rw [ho]; rfl)) ?_
  unfold Oper.wp
  rw [yield _ _ hr]
  refine hK _ _ _ (R.mJ hkH (l':=⟨w.heap.size,0,G * sz⟩) ((bG _).G5 R.base) (fun b hb _=>(bG _).block b hb) (.inr (Nat.le_refl _)) (e:=e) (heap_alloc_new w.drew _) hcs ?_ ?_ ?_)
   (.sls _ _ _ _ _ (by simp [aB]) (.inr ⟨⟨w.heap.size,0,G * sz⟩,G,by simp [bR],rfl,by omega,by simp⟩))
  ·have:G * sz≤9223372036854775807 * 64:=Nat.mul_le_mul hle h64
   unfold Dv; simp only; omega
  ·simp only [List.length_append,hlen,aJ,hflen]; omega
  intro j hj
  simp only [List.length_append,hlen,aJ,hflen] at hj
  simp only [Nat.zero_add]
  have eg:(olds.toArray++news.toArray++Builtin.zeroCells z.cells (G - (len + l.length))).getD j undef=if j < olds.length then olds.getD j undef else news.getD (j - olds.length) undef:=by
   have:=qn (xs:=olds) (ys:=news) (zs:=(Builtin.zeroCells z.cells (G - (len + l.length))).toList) (j:=j) (by omega)
   rwa [Array.toArray_toList] at this
  rw [eg]
  by_cases hjl:j < len * sz
  ·rw [if_pos (by omega),List.getElem_append_left (by omega)]
   simp only [List.getElem_take,List.getElem_drop]
   have h9:=hcells (lo + j) (by omega)
   have:olds.getD j undef=cur.getD (l0.o + lo + j) undef:=by
    rw [← holds]
    simp [List.getD,List.getElem?_map,List.getElem?_range hjl]
   rw [this]
   rwa [← Nat.add_assoc] at h9
  rw [if_neg (by omega),List.getElem_append_right (by omega)]
  have:=hnv (j - len * sz) (by rw [aJ,hflen]; omega)
  simp only [hlen,hol]
  exact this
end
open Go.RowKit
section
variable {P:Program} {C:Ctx} {m:Map} {s:St} {tmps:Array Value} {w:World}
def zM (C:Ctx) (X:Nat→Prop) (w:World):Ctx:=⟨fun b=>C.okA b∨C.B b,fun b=>C.B b∧¬ X b,w,C.bf⟩
theorem Ay (C:Ctx) (X:Nat→Prop) (w0:World) (m:Map) (H:az) (w:World):OK (zM C X w0) m H w=OK C m H w:=by
 funext b
 unfold OK zM
 refine propext ⟨fun h=>⟨?_,h.2⟩,fun h=>⟨.inl h.1,h.2⟩⟩
 rcases h.1 with h1 | h1
 ·exact h1
 exact .inr h1.1
theorem Rel.hold (R:Rel C m s tmps w) (X:Nat→Prop) (hX:∀ b,X b→b < w.heap.size∧∀ cur e sh,w.heap[b]? ≠ some (.cells cur e sh))
  (hmp:∀ (k:Nat) (kk:IntKind) (d:Int→Bool) (v:Int→PV) (l:Loc),s.H[k]? = some (aH.mp kk d v)→m k=some l→¬ X l.g) (hlp:∀ b,X b→∀ rr,w.heap[b]? ≠ some (.loop rr)):Rel (zM C X w) m s tmps w:=by
 have e:=Ay C X w m s.H w
 refine ⟨by rw [e]; exact R.laid,ca.refl _ _,fun b hb=>⟨R.base b hb,fun hx=>by have:=(hX b hx).1; omega⟩,R.size,R.inj,fun k c h=>?_,by rw [e]; exact R.fro,by rw [e]; exact R.slot,fun k kk d v h=>?_,R.mp.2.1,R.mp.2.2.1,fun k rr h=>(let ⟨l,a1,a2,a3⟩:=R.mp.2.2.2.1 k rr h; ⟨l,a1,⟨a2,fun hx=>hlp _ hx _ a3⟩,a3⟩),R.mp.2.2.2.2⟩
 ·rw [e]
  rcases R.blk k c h with h1 | ⟨l,cur,ee,a1,a2,a3,a4⟩
  ·exact .inl h1
  exact .inr ⟨l,cur,ee,a1,⟨a2,fun hx=>(hX _ hx).2 _ _ _ a3⟩,a3,a4⟩
 rw [e]
 obtain ⟨l,ar,clk,vs,a1,a2,a3⟩:=R.mp.1 k kk d v h
 exact ⟨l,ar,clk,vs,a1,⟨a2,hmp k kk d v l h a1⟩,a3⟩
end
open Go.RowKit
theorem rA {π:List Nat} {H H2:az} : ∀ {ks:List Nat} {H1:az},(∀ k∈ks,aA H2 k=aA H k)→dQ π H ks H1→dQ π H2 ks H1
 | [],[],_,_=>trivial
 | [],_ :: _,_,h=>h.elim
 | _ :: _,[],_,h=>h.elim
 | k :: ks,b :: r,he,h=>by
  refine ⟨?_,rA (fun j hj=>he j (by simp [hj])) h.2⟩
  have h1:=h.1
  have e:=he k (by simp)
  cases b<;>simp only [dJ,e] at h1 ⊢<;>exact h1
def xJ (ks:List Nat) (x a:AV):Prop:=
 match a with
 | .p pv=>x = .p pv
 | a=>x=Go.Pv.aY ks a∧bj ks.length a=true
def mM (ks:List Nat):List AV→List AV→Prop
 | x :: xs,a :: avs=>xJ ks x a∧mM ks xs avs
 | [],[]=>True
 | _,_=>False
theorem iZ {H:az} {ks:List Nat} : ∀ {X avs:List AV},mM ks X avs→nF H ks X avs
 | [],[],_=>trivial
 | [],_ :: _,h=>h.elim
 | _ :: _,[],h=>h.elim
 | x :: xs,a :: avs,h=>by
  refine ⟨?_,iZ h.2⟩
  have h1:=h.1
  cases a with
  | p pv =>
   simp only [xJ] at h1
   subst h1
   simp only [yC,bH,cg,and_self]
  | _=>simp only [xJ] at h1; simp only [yC]; exact h1
theorem qw:∀ (ks:List Nat) (bs H:az),ks.Nodup→ks.length=bs.length→dE H ks bs=mc H (ks.zip bs)
 | [],[],H,_,_=>by simp [dE,mc]
 | [],_ :: _,H,_,h=>by simp at h
 | _ :: _,[],H,_,h=>by simp at h
 | k :: ks,b :: bs,H,hn,hl=>by
  rw [List.nodup_cons] at hn
  simp only [dE,List.zip_cons_cons,mc]
  rw [qw ks bs _ hn.2 (by simpa using hl)]
  have hno:((ks.zip bs).any fun p=>p.1 == k)=false:=by
   rw [List.any_eq_false]
   intro p hp e
   have e:p.1=k:=by simpa using e
   exact hn.1 (e ▸ (List.of_mem_zip hp).1)
  refine iJ (by rw [cM,aB,aB,cM]) fun j=>?_
  rw [gk,aB,bO,bO,cM,gk]
  by_cases h:j=k
  ·subst h
   rw [hno,if_neg (fun hh=>by cases hh.1)]
   by_cases h2:j < H.length
   ·rw [if_pos ⟨rfl,h2⟩,if_pos ⟨rfl,h2⟩]
   rw [if_neg (fun hh=>h2 hh.2),if_neg (fun hh=>h2 hh.2),if_neg (fun hh=>by cases hh.1)]
  rw [if_neg (show ¬ (j=k∧k < H.length) from fun hh=>h hh.1),if_neg (show ¬ (j=k∧k < H.length) from fun hh=>h hh.1)]
section
variable {P:Program} {s:St}
theorem va {all:Array Oper} {rest:List Oper} {K:St→List I2→Prop} {acc:List I2} {dst:Option Tmp} {ty:TypeId} {pos:String} {aft:Array Edge} {gd:Option (Nat × Bool)} {fo:Operand} {args:Array Operand} {ts:Array TypeId} {g:FuncId} {avs:List AV} {H0 H1:az} {r:AV} (ks:List Nat)
  (hc:zI P g avs H0 r H1) (hlen:ks.length=H1.length) {cap:List PV} (hfo:s.ev fo = .p (.fn g cap)) (hg:a8 all s { dst:=dst,op:=.call { callee:=.value fo,args:=args,argTypes:=ts },type:=ty,pos:=pos,after:=aft,guard:=gd } = some true)
  (hargs:mM ks (args.toList.map s.ev++cap.map .p) avs) (hle:dQ ks s.H ks H0) (hnd:ks.Nodup) (hks:∀ k∈ks,k < s.H.length) (bD:Cu r H0 H1=true) (hd:ay s dst)
  (h:fE P all rest K (({ s with H:=mc s.H (ks.zip (H1.map (aH.aY ks))) } : St).put dst (Go.Pv.aY ks r)) (acc++[⟨.ms (ks.zip (H1.map (aH.aY ks))),Go.Pv.aY ks r,.dead,false⟩])) :
  fE P all ({ dst:=dst,op:=.call { callee:=.value fo,args:=args,argTypes:=ts },type:=ty,pos:=pos,after:=aft,guard:=gd } :: rest) K s acc:=by
 obtain ⟨s',xs,hr,hK⟩:=h
 have hz:∀ p∈ks.zip (H1.map (aH.aY ks)),p.1∈ks∧p.2∈H1.map (aH.aY ks):=fun p hp=>List.of_mem_zip hp
 refine ⟨s',⟨.ms (ks.zip (H1.map (aH.aY ks))),Go.Pv.aY ks r,.dead,false⟩ :: xs,.op hg (bC hd) ⟨⟨fun p hp=>hks _ (hz p hp).1,fun p hp i j e=>?_⟩,?_⟩ (fun h=>by cases h) hr,by rw [List.append_assoc] at hK; exact hK⟩
 ·obtain ⟨b,hb,e2⟩:=List.mem_map.1 (hz p hp).2
  unfold Cu at bD
  simp only [Bool.and_eq_true] at bD
  have:=(List.all_eq_true.1 bD.1.1.1.2) b hb
  rw [e] at e2
  cases b<;>simp [aH.aY] at e2 this
 intro s2 hn ha hH
 simp only [dW,Op.operands,Call.operands] at ha
 have h1:s2.ev fo = .p (.fn g cap):=(ha fo (by simp)).trans hfo
 have h2:args.toList.map s2.ev=args.toList.map s.ev:=List.map_congr_left fun x hx=>ha x (by simp; right; simpa using hx)
 have hHl:∀ k∈ks,k < s2.H.length∧aA s2.H k=aA s.H k:=fun k hk=>by
  obtain ⟨i,hi,e⟩:=List.getElem_of_mem hk
  have hi2:i < (ks.zip (H1.map (aH.aY ks))).length:=by simp; omega
  have:=hH _ (List.getElem_mem hi2)
  rwa [List.getElem_zip,e] at this
 have hle2:=rA (fun k hk=>(hHl k hk).2) hle
 have hdo:=pC (P:=P) (s:=s2) (o:={ dst:=dst,op:=.call { callee:=.value fo,args:=args,argTypes:=ts },type:=ty,pos:=pos,after:=aft,guard:=gd }) rfl h1 hc (ks:=ks) (by rw [h2]; exact iZ hargs) hle2 hnd (List.all_eq_true.2 fun k hk=>by simpa using (hHl k hk).1) bD
 have e0:H1.length - ks.length=0:=by omega
 rw [e0] at hdo
 simp only [List.range'_zero,List.append_nil] at hdo
 rw [qw ks _ _ hnd (by simp [hlen])] at hdo
 exact hdo
end
end Go.Pv
namespace Go.Proofs.YtpobnnfkeekiaaaDoor
open Go.Pv
def ak:TypeId→Option TI
 | 2=>some ⟨.int .i64,1,8,[.int .i64 0],false⟩
 | 3=>some ⟨.int .i64,1,8,[.int .i64 0],false⟩
 | 4=>some ⟨.bool,1,1,[.bool false],false⟩
 | 5=>some ⟨.int .u8,1,1,[.int .u8 0],false⟩
 | 9=>some ⟨.str,1,16,[.string ⟨#[]⟩],false⟩
 | 12=>some ⟨.int .u64,1,8,[.int .u64 0],false⟩
 | 21=>some ⟨.int .i32,1,4,[.int .i32 0],false⟩
 | 22=>some ⟨.slice 3,1,24,[.slice none 0 0],false⟩
 | 24=>some ⟨.struct [(0,3,1),(1,22,1)],2,32,[.int .i64 0,.slice none 0 0],false⟩
 | 25=>some ⟨.slice 22,1,24,[.slice none 0 0],false⟩
 | 29=>some ⟨.struct [(0,3,1),(1,3,1)],2,16,[.int .i64 0,.int .i64 0],true⟩
 | 34=>some ⟨.other,1,8,[.nilFunc],false⟩
 | 47=>some ⟨.slice 25,1,24,[.slice none 0 0],false⟩
 | 55=>some ⟨.int .u64,1,8,[.int .u64 0],false⟩
 | 56=>some ⟨.int .u64,1,8,[.int .u64 0],false⟩
 | 59=>some ⟨.slice 4,1,24,[.slice none 0 0],false⟩
 | 61=>some ⟨.other,1,8,[.nilFunc],false⟩
 | 65=>some ⟨.other,1,8,[.pointer none],false⟩
 | 67=>some ⟨.map 3 3 (some (.int .i64 0)),1,8,[.map none],false⟩
 | 72=>some ⟨.struct [],0,0,[],false⟩
 | 74=>some ⟨.struct [(0,3,1),(1,25,1),(2,22,1),(3,3,1)],4,64,[.int .i64 0,.slice none 0 0,.slice none 0 0,.int .i64 0],false⟩
 | 78=>some ⟨.array 64 5,64,64,[.int .u8 0,.int .u8 0,.int .u8 0,.int .u8 0,.int .u8 0,.int .u8 0,.int .u8 0,.int .u8 0,.int .u8 0,.int .u8 0,.int .u8 0,.int .u8 0,.int .u8 0,.int .u8 0,.int .u8 0,.int .u8 0,.int .u8 0,.int .u8 0,.int .u8 0,.int .u8 0,.int .u8 0,.int .u8 0,.int .u8 0,.int .u8 0,.int .u8 0,.int .u8 0,.int .u8 0,.int .u8 0,.int .u8 0,.int .u8 0,.int .u8 0,.int .u8 0,.int .u8 0,.int .u8 0,.int .u8 0,.int .u8 0,.int .u8 0,.int .u8 0,.int .u8 0,.int .u8 0,.int .u8 0,.int .u8 0,.int .u8 0,.int .u8 0,.int .u8 0,.int .u8 0,.int .u8 0,.int .u8 0,.int .u8 0,.int .u8 0,.int .u8 0,.int .u8 0,.int .u8 0,.int .u8 0,.int .u8 0,.int .u8 0,.int .u8 0,.int .u8 0,.int .u8 0,.int .u8 0,.int .u8 0,.int .u8 0,.int .u8 0,.int .u8 0],false⟩
 | 79=>some ⟨.int .u64,1,8,[.int .u64 0],false⟩
 | 80=>some ⟨.array 3 3,3,24,[.int .i64 0,.int .i64 0,.int .i64 0],false⟩
 | 81=>some ⟨.slice 80,1,24,[.slice none 0 0],false⟩
 | 88=>some ⟨.int .u32,1,4,[.int .u32 0],false⟩
 | _=>none
theorem H3:bk Tryd.prog 2=some ⟨.int .i64,1,8,[.int .i64 0],false⟩:=by kernel_rfl
theorem Ia:bk Tryd.prog 3=some ⟨.int .i64,1,8,[.int .i64 0],false⟩:=by kernel_rfl
theorem HR:bk Tryd.prog 4=some ⟨.bool,1,1,[.bool false],false⟩:=by kernel_rfl
theorem Ir:bk Tryd.prog 5=some ⟨.int .u8,1,1,[.int .u8 0],false⟩:=by kernel_rfl
theorem Ig:bk Tryd.prog 9=some ⟨.str,1,16,[.string ⟨#[]⟩],false⟩:=by kernel_rfl
theorem Gf:bk Tryd.prog 12=some ⟨.int .u64,1,8,[.int .u64 0],false⟩:=by kernel_rfl
theorem GQ:bk Tryd.prog 21=some ⟨.int .i32,1,4,[.int .i32 0],false⟩:=by kernel_rfl
theorem FL:bk Tryd.prog 22=some ⟨.slice 3,1,24,[.slice none 0 0],false⟩:=by kernel_rfl
theorem Gl:bk Tryd.prog 24=some ⟨.struct [(0,3,1),(1,22,1)],2,32,[.int .i64 0,.slice none 0 0],false⟩:=by kernel_rfl
theorem Gd:bk Tryd.prog 25=some ⟨.slice 22,1,24,[.slice none 0 0],false⟩:=by kernel_rfl
theorem G4:bk Tryd.prog 29=some ⟨.struct [(0,3,1),(1,3,1)],2,16,[.int .i64 0,.int .i64 0],true⟩:=by kernel_rfl
theorem Gk:bk Tryd.prog 34=some ⟨.other,1,8,[.nilFunc],false⟩:=by kernel_rfl
theorem Gs:bk Tryd.prog 47=some ⟨.slice 25,1,24,[.slice none 0 0],false⟩:=by kernel_rfl
theorem GL:bk Tryd.prog 55=some ⟨.int .u64,1,8,[.int .u64 0],false⟩:=by kernel_rfl
theorem FG:bk Tryd.prog 56=some ⟨.int .u64,1,8,[.int .u64 0],false⟩:=by kernel_rfl
theorem FM:bk Tryd.prog 59=some ⟨.slice 4,1,24,[.slice none 0 0],false⟩:=by kernel_rfl
theorem Hj:bk Tryd.prog 61=some ⟨.other,1,8,[.nilFunc],false⟩:=by kernel_rfl
theorem GZ:bk Tryd.prog 65=some ⟨.other,1,8,[.pointer none],false⟩:=by kernel_rfl
theorem FF:bk Tryd.prog 67=some ⟨.map 3 3 (some (.int .i64 0)),1,8,[.map none],false⟩:=by kernel_rfl
theorem G6:bk Tryd.prog 72=some ⟨.struct [],0,0,[],false⟩:=by kernel_rfl
theorem Fk:bk Tryd.prog 74=some ⟨.struct [(0,3,1),(1,25,1),(2,22,1),(3,3,1)],4,64,[.int .i64 0,.slice none 0 0,.slice none 0 0,.int .i64 0],false⟩:=by kernel_rfl
theorem FX:bk Tryd.prog 78=some ⟨.array 64 5,64,64,[.int .u8 0,.int .u8 0,.int .u8 0,.int .u8 0,.int .u8 0,.int .u8 0,.int .u8 0,.int .u8 0,.int .u8 0,.int .u8 0,.int .u8 0,.int .u8 0,.int .u8 0,.int .u8 0,.int .u8 0,.int .u8 0,.int .u8 0,.int .u8 0,.int .u8 0,.int .u8 0,.int .u8 0,.int .u8 0,.int .u8 0,.int .u8 0,.int .u8 0,.int .u8 0,.int .u8 0,.int .u8 0,.int .u8 0,.int .u8 0,.int .u8 0,.int .u8 0,.int .u8 0,.int .u8 0,.int .u8 0,.int .u8 0,.int .u8 0,.int .u8 0,.int .u8 0,.int .u8 0,.int .u8 0,.int .u8 0,.int .u8 0,.int .u8 0,.int .u8 0,.int .u8 0,.int .u8 0,.int .u8 0,.int .u8 0,.int .u8 0,.int .u8 0,.int .u8 0,.int .u8 0,.int .u8 0,.int .u8 0,.int .u8 0,.int .u8 0,.int .u8 0,.int .u8 0,.int .u8 0,.int .u8 0,.int .u8 0,.int .u8 0,.int .u8 0],false⟩:=by kernel_rfl
theorem GP:bk Tryd.prog 79=some ⟨.int .u64,1,8,[.int .u64 0],false⟩:=by kernel_rfl
theorem Hn:bk Tryd.prog 80=some ⟨.array 3 3,3,24,[.int .i64 0,.int .i64 0,.int .i64 0],false⟩:=by kernel_rfl
theorem Fs:bk Tryd.prog 81=some ⟨.slice 80,1,24,[.slice none 0 0],false⟩:=by kernel_rfl
theorem G1:bk Tryd.prog 88=some ⟨.int .u32,1,4,[.int .u32 0],false⟩:=by kernel_rfl
theorem ae:∀ t ti,ak t=some ti→bk Tryd.prog t=some ti:=by
 intro t ti h
 unfold ak at h
 split at h
 ·cases h; exact H3
 ·cases h; exact Ia
 ·cases h; exact HR
 ·cases h; exact Ir
 ·cases h; exact Ig
 ·cases h; exact Gf
 ·cases h; exact GQ
 ·cases h; exact FL
 ·cases h; exact Gl
 ·cases h; exact Gd
 ·cases h; exact G4
 ·cases h; exact Gk
 ·cases h; exact Gs
 ·cases h; exact GL
 ·cases h; exact FG
 ·cases h; exact FM
 ·cases h; exact Hj
 ·cases h; exact GZ
 ·cases h; exact FF
 ·cases h; exact G6
 ·cases h; exact Fk
 ·cases h; exact FX
 ·cases h; exact GP
 ·cases h; exact Hn
 ·cases h; exact Fs
 ·cases h; exact G1
 cases h
theorem mixed:Tryd.prog.follows .mixedOrders=true:=by kernel_rfl
end Go.Proofs.YtpobnnfkeekiaaaDoor
namespace Go.Pv
open Go.RowKit
def tl (M:List (List Int)):az:=M.map fun v=>.own (ol v)
theorem cA:∀ (H:az) (k:Nat),aA H k=H.getD k .dead
 | [],k=>by simp [aA]
 | b :: r,0=>by simp [aA]
 | b :: r,k + 1=>by rw [aA,cA r k]; simp
theorem gQ:∀ (H:az) (k:Nat) (b:aH),aF H k b=H.set k b
 | [],k,b=>by simp [aF]
 | x :: r,0,b=>by simp [aF]
 | x :: r,k + 1,b=>by rw [aF,gQ r k]; simp
theorem kE (A:az) (x:aH):aA (A++[x]) A.length=x:=by
 rw [bc (Nat.le_refl _),Nat.sub_self]; rfl
section
variable {P:Program} {c:Code} {Q:Exit→St→Prop}
end
open Go.RowKit
theorem yM {L:Nat} {x:AV} (h:bn L x=true):bg (List.range L) x=x:=by
 have hg:∀ k,k < L→(List.range L).getD k 0=k:=fun k hk=>by simp [List.getD,List.getElem?_range hk]
 cases x<;>simp only [bn,decide_eq_true_eq] at h<;>first|rfl|(simp only [bg,hg _ h])
theorem fO {L:Nat} {x:AV} (h:bj L x=true):Go.Pv.aY (List.range L) x=x:=by
 have hg:∀ k,k < L→(List.range L).getD k 0=k:=fun k hk=>by simp [List.getD,List.getElem?_range hk]
 have hm:∀ l:List AV,l.all (bn L)=true→l.map (bg (List.range L))=l:=fun l hl=>by
  have:=List.map_congr_left (f:=bg (List.range L)) (g:=id) fun x hx=>yM ((List.all_eq_true.1 hl) x hx)
  rw [this,List.map_id]
 cases x with
 | agg l=>simp only [Go.Pv.aY]; rw [hm l h]
 | tup l=>simp only [Go.Pv.aY]; rw [hm l h]
 | cl f l=>simp only [Go.Pv.aY]; rw [hm l h]
 | yv k l vs =>
  simp only [bj,Bool.and_eq_true,decide_eq_true_eq] at h
  simp only [Go.Pv.aY]; rw [hm l h.2,hg _ h.1]
 | _=>simp only [Go.Pv.aY]; exact yM (by simpa only [bj] using h)
def bD (L:Nat):aH→Bool
 | .own c=>c.all (bj L)
 | .bf _ j=>decide (j < L)
 | _=>true
theorem vE {L:Nat} {H:az} (hs:∀ b∈H,bD L b=true):∀ (H1:az) (a:Nat),(∀ i,i < H1.length→aA H (a + i)=aA H1 i)→(∀ b∈H1,b∈H)→a + H1.length≤L→dQ (List.range L) H (List.range' a H1.length) H1
 | [],a,_,_,_=>trivial
 | b :: r,a,h,hm,hl=>by
  rw [List.length_cons] at hl ⊢
  rw [List.range'_succ]
  refine ⟨?_,vE hs r (a + 1) (fun i hi=>?_) (fun x hx=>hm x (by simp [hx])) (by omega)⟩
  ·have h0:=h 0 (by simp)
   simp only [aA,Nat.add_zero] at h0
   have hb:=hs b (hm b (by simp))
   cases b with
   | own c =>
    simp only [dJ,h0,List.length_range]
    refine ⟨?_,hb⟩
    rw [List.take_of_length_le (Nat.le_refl _)]
    have:=List.map_congr_left (f:=Go.Pv.aY (List.range L)) (g:=id) fun x hx=>fO ((List.all_eq_true.1 hb) x hx)
    rw [this,List.map_id]
   | bf i j =>
    simp only [bD,decide_eq_true_eq] at hb
    simp only [dJ,h0,List.length_range]
    refine ⟨?_,hb⟩
    simp [List.getD,List.getElem?_range hb]
   | dead=>trivial
   | _=>simp only [dJ,h0]
  have:=h (i + 1) (by simp; omega)
  rw [show a + 1 + i=a + (i + 1) by omega,this]; rfl
theorem pj {L:Nat} {s:St} : ∀ {l:List (Nat × AV)},(∀ p∈l,s.get p.1=p.2∧bj L p.2=true)→jr (List.range L) l s
 | [],_=>trivial
 | (t,x) :: r,h=>by
  obtain ⟨h1,h2⟩:=h (t,x) (by simp)
  refine ⟨by rw [fO h2]; exact h1,by rw [List.length_range]; exact h2,pj fun p hp=>h p (by simp [hp])⟩
theorem dM {S s:St} (hn:S.n=s.n) (hH:S.H=s.H) (hs:∀ b∈s.H,bD s.H.length b=true) (hsl:∀ p∈S.sl,s.get p.1=p.2∧bj s.H.length p.2=true):Le (List.range s.H.length) S s:=by
 refine ⟨hn,List.nodup_range,?_,pj hsl⟩
 rw [hH]
 have:=vE hs s.H 0 (fun i _=>by rw [Nat.zero_add]) (fun b hb=>hb) (by omega)
 rwa [← List.range_eq_range'] at this
theorem o8 {L k n:Nat} (h:k + n≤L):∀ b∈aR k n,bD L b=true:=fun b hb=>by
 obtain ⟨j,hj⟩:=List.getElem?_of_mem hb
 obtain ⟨h1,rfl⟩:=mO _ _ _ _ hj
 simp [bD]; omega
section
variable {P:Program} {T:TypeId→Option TI} {s:St}
def EB (P:Program) (o:Oper) (s:St) (O:AV→az→Prop):Prop:=
 ∀ C m (a:Act) w (K:Act→World→Prop) (Q:Exit→Act→World→Prop),Rel C m s a.tmps w →
  (∀ v m' w' av H',O av H'→Rel C m' { s with H:=H' } a.tmps w'→aG (Reads (OK C m' H' w') w') m' H' av v→K (a.put o.dst v) w')→zu P o a w K Q
theorem iz.Gr {all:Array Oper} {Q:Exit→Act→World→Prop} {C:Ctx} {ds:List Deferred} {rest:List Oper} : ∀ {ops:List Oper} {s s' : St} {draw:Bool},iz P draw all ops s s'→∀ {m:Map} {a:Act} {w:World},Rel C m s a.tmps w→a.defers=ds →
  (∀ m' (a' : Act) w',Rel C m' s' a'.tmps w'→a'.defers=ds→jc P all Q rest a' w')→jc P all Q (ops++rest) a w:=by
 intro ops
 induction ops with
 | nil =>
  intro s s' draw h m a w R hd hQ
  cases h
  exact hQ m a w R hd
 | cons o r ih =>
  intro s s' draw h m a w R hd hQ
  cases h with
  | cons h hr =>
   cases h with
   | skip hg hlt =>
    have hw:=bW (P:=P) R hg
    refine rI hw (ih hr (m:=m) ?_ (by rw [put_defers]; exact hd) hQ)
    exact R.put hlt (.p _ _ mu)
   | op av H' hg hlt h hl =>
    have hw:=bW (P:=P) R hg
    refine kD fun K hK=>?_
    rw [if_pos hw]
    refine h C m a w K Q R fun v m' w' R' hv=>hK _ _ (ih hr (m:=m') ?_ (by rw [put_defers]; exact hd) hQ)
    exact R'.put hlt hv
def IU (P:Program) (f:FuncId) (args:List AV) (H0:az) (eT:AV→az→Prop):Prop:=
 Fj P f∧∀ (C:Ctx) (m:Map) (w:World) (vals:Array Value),Rel C m ⟨args.length,cK 0 args,H0++aR 0 H0.length⟩ vals w →
  Calls P f vals w fun e w'=>∃ v m' r H1,eT r H1∧e = .returned v∧Rel C m' ⟨1,[(0,r)],H1++aR 0 H0.length⟩ #[v] w'
theorem zI.Je {f:FuncId} {args:List AV} {H0 H1:az} {r:AV} (h:zI P f args H0 r H1):IU P f args H0 (fun r' H'=>r' = r∧H' = H1):=
 ⟨h.1,fun C m w vals R=>(h.2 C m w vals R).mono fun e w' ⟨v,m',he,R'⟩=>⟨v,m',r,H1,⟨rfl,rfl⟩,he,R'⟩⟩
theorem wA {o:Oper} {fo:Operand} {args:Array Operand} {ts:Array TypeId} (ho:o.op = .call { callee:=.value fo,args:=args,argTypes:=ts }) {g:FuncId} {cap:List PV} (hfo:s.ev fo = .p (.fn g cap)) {ks:List Nat} {avs:List AV} {H0:az} {eT:AV→az→Prop}
  (hc:IU P g avs H0 eT) (hargs:nF s.H ks (args.toList.map s.ev++cap.map .p) avs) (hle:dQ ks s.H ks H0) (hnd:ks.Nodup) (hks:∀ k∈ks,k < s.H.length) (h0:H0.all cf=true) (bD:∀ r H1,eT r H1→Cu r H0 H1=true) :
  EB P o s (fun av H'=>∃ r H1,eT r H1∧av=Go.Pv.aY (ks++List.range' s.H.length (H1.length - ks.length)) r∧H' = dE s.H ks (H1.map (aH.aY (ks++List.range' s.H.length (H1.length - ks.length))))):=by
 intro C m a w K Q R hK
 have hfv:=R.ev fo
 rw [hfo] at hfv
 generalize hfe:a.eval fo=fv at hfv
 have hfv:=hfv.aN
 cases hfv with
 | fn _ _ vs hcl hcr =>
  obtain ⟨⟨fn,hfn,hnm,hbd⟩,hcalls⟩:=hc
  have hrun:(execOp a.eval o).run P w = .ok (.enter g (args.map a.eval++vs)) w:=by
   have hnm' : ¬ fn.name = "runtime.NumGoroutine":=by simpa using hnm
   have hbd' : ¬ fn.body=none:=by intro e; rw [e] at hbd; simp at hbd
   simp [execOp,ho,resolve,hfe,Deferred.ofValue,invoke,callFunc,hfn,hnm',hbd']
  refine aW (by first|rfl|(rw [ho]; rfl)) ?_
  unfold Oper.wp
  rw [hrun]
  simp only [Oper.upon]
  obtain ⟨g1,g2⟩:=hle.get
  have ho1:∀ b,OK C m s.H w b→OK (iA C m s.H ks H0 w) (bV m ks) H0 w b:=by
   refine fun b h=>⟨.inl h,h.2.1,fun k c l hk hl=>?_⟩
   obtain ⟨k',d,a1,a2,_⟩:=dQ.own g2 k c hk
   simp only [bV,a1,Option.bind_some] at hl
   exact h.2.2 k' _ l a2 hl
  obtain ⟨e1,e2⟩:=iG R (rd':=Reads (OK (iA C m s.H ks H0 w) (bV m ks) H0 w) w) (H0:=H0) (fun p v h=>h.mono ho1) g1.symm _ avs (fun i=>(args.map a.eval++vs).getD i undef) hargs fun i hi=>by
   simp only [List.length_append,List.length_map,Array.length_toList] at hi
   by_cases hip:i < args.size
   ·rw [List.getElem_append_left (by simpa using hip)]
    simp only [Array.getD_eq_getD_getElem?]
    rw [Array.getElem?_append_left (by simpa using hip)]
    have:=R.ev args[i]
    simpa [Array.getElem?_eq_getElem hip] using this
   rw [List.getElem_append_right (by simp; omega)]
   simp only [Array.getD_eq_getD_getElem?]
   rw [Array.getElem?_append_right (by simp; omega)]
   simp only [List.getElem_map,List.length_map,Array.length_toList,Array.size_map]
   have:=hcr (i - args.size) (by omega)
   rw [Array.getD_eq_getD_getElem?] at this
   exact .p _ _ this
  have hsz:(args.map a.eval++vs).size=avs.length:=by
   rw [e1]; simp; omega
  have R0:Rel (iA C m s.H ks H0 w) (bV m ks) ⟨avs.length,cK 0 avs,H0⟩ (args.map a.eval++vs) w:=by
   refine R.oB (s1:=⟨avs.length,cK 0 avs,H0⟩) hsz hnd hle ho1 (ca.refl _ _) (fun b h=>.inl h) (fun k b l h hw hl _=>.inr ⟨k,b,l,h,hw,hl,rfl⟩) (fun k i j h=>?_) fun t=>?_
   ·exact absurd rfl (fB ((List.all_eq_true.1 h0) _ (List.mem_of_getElem? h)) i j)
   unfold St.get
   simp only
   rw [gR,if_pos (Nat.zero_le _),Nat.sub_zero]
   by_cases ht:t < avs.length
   ·have:=e2 t ht
    simpa [List.getD,List.getElem?_eq_getElem ht] using this
   rw [List.getD_eq_getElem?_getD,List.getElem?_eq_none (by omega)]
   exact .dead _
  have R0':=R0.tx (n:=H0.length) (Nat.le_refl _) fun i _=>rfl
  refine (hcalls _ _ w _ R0').mono fun e w' ⟨v,m',r,H1,hP,he,R1⟩=>?_
  subst he
  obtain ⟨m2,R2,hv⟩:=R.EK hle hks R1 (bD r H1 hP)
  exact hK v m2 w' _ _ ⟨r,H1,hP,rfl,rfl⟩ R2 hv
theorem kM {H0 X:az} (hs:∀ b∈H0,bD H0.length b=true):dQ (List.range H0.length) (H0++X) (List.range H0.length) H0:=by
 have gen:∀ (H1:az) (a:Nat),(∀ i,i < H1.length→aA (H0++X) (a + i)=aA H1 i)→(∀ b∈H1,b∈H0)→a + H1.length≤H0.length→dQ (List.range H0.length) (H0++X) (List.range' a H1.length) H1:=by
  intro H1
  induction H1 with
  | nil=>intro a _ _ _; trivial
  | cons b r ih =>
   intro a h hm hl
   rw [List.length_cons] at hl ⊢
   rw [List.range'_succ]
   refine ⟨?_,ih (a + 1) (fun i hi=>?_) (fun x hx=>hm x (by simp [hx])) (by omega)⟩
   ·have h0:=h 0 (by simp)
    simp only [aA,Nat.add_zero] at h0
    have hb:=hs b (hm b (by simp))
    cases b with
    | own c =>
     simp only [dJ,h0,List.length_range]
     refine ⟨?_,hb⟩
     rw [List.take_of_length_le (Nat.le_refl _)]
     have:=List.map_congr_left (f:=Go.Pv.aY (List.range H0.length)) (g:=id) fun x hx=>fO ((List.all_eq_true.1 hb) x hx)
     rw [this,List.map_id]
    | bf i j =>
     simp only [bD,decide_eq_true_eq] at hb
     simp only [dJ,h0,List.length_range]
     refine ⟨?_,hb⟩
     simp [List.getD,List.getElem?_range hb]
    | dead=>trivial
    | _=>simp only [dJ,h0]
   have:=h (i + 1) (by simp; omega)
   rw [show a + 1 + i=a + (i + 1) by omega,this]; rfl
 have:=gen H0 0 (fun i hi=>by rw [Nat.zero_add,bX hi]) (fun b hb=>hb) (by omega)
 rwa [← List.range_eq_range'] at this
theorem rT {L:Nat} {b:aH} (h:bD L b=true):aH.aY (List.range L) b=b:=by
 cases b with
 | own c =>
  simp only [aH.aY]
  have:=List.map_congr_left (f:=Go.Pv.aY (List.range L)) (g:=id) fun x hx=>fO ((List.all_eq_true.1 h) x hx)
  rw [this,List.map_id]
 | _=>rfl
theorem vH {H0 H1 X:az} (hl:H1.length=H0.length):mc (H0++X) ((List.range H0.length).zip H1)=H1++X:=by
 refine iJ (by rw [cM]; simp [hl]) fun j=>?_
 rw [gk]
 have hz:((List.range H0.length).zip H1)=(List.range H1.length).zip H1:=by rw [hl]
 have gen:∀ (B:az) (a:Nat),((((List.range' a B.length).zip B).any fun p=>p.1 == j)=decide (a≤j∧j < a + B.length))∧(a≤j∧j < a + B.length→C9 j ((List.range' a B.length).zip B)=aA B (j - a)):=by
  intro B
  induction B with
  | nil=>intro a; simp; omega
  | cons b r ih =>
   intro a
   obtain ⟨i1,i2⟩:=ih (a + 1)
   rw [List.length_cons,List.range'_succ,List.zip_cons_cons]
   constructor
   ·rw [List.any_cons,i1]
    by_cases h:a=j
    ·subst h; simp
    have:(a == j)=false:=by simpa using h
    rw [this,Bool.false_or]
    exact decide_eq_decide.2 (by omega)
   intro hj
   simp only [C9]
   by_cases h:a=j
   ·subst h; rw [if_pos rfl,Nat.sub_self]; rfl
   rw [if_neg h,i2 (by omega),show j - a=(j - (a + 1)) + 1 by omega]; rfl
 obtain ⟨g1,g2⟩:=gen H1 0
 rw [← List.range_eq_range'] at g1 g2
 rw [hz,g1]
 by_cases h:j < H1.length
 ·rw [if_pos ⟨by simpa using h,by simp; omega⟩,g2 ⟨Nat.zero_le _,by omega⟩,Nat.sub_zero,bX h]
 rw [if_neg (fun hh=>by simp at hh; omega),bc (by omega),bc (by omega),hl]
def EI (n:Nat) (av:AV) (H0 H1:az):Bool:=decide (H1.length=n) && (bj n av && H1.all (bD n) && H1.all cf && cQ H0 H1)
theorem xL {n:Nat} {av:AV} {H0 H1:az} (h0:H0.all cf=true) (hn:H0.length=n) (h:EI n av H0 H1=true):Cu av H0 H1=true∧H1.length=n∧bj n av=true∧∀ b∈H1,bD n b=true:=by
 unfold EI at h
 simp only [Bool.and_eq_true,decide_eq_true_eq] at h
 obtain ⟨h1,⟨⟨h2,h3⟩,h4⟩,h5⟩:=h
 refine ⟨?_,h1,h2,fun b hb=>(List.all_eq_true.1 h3) b hb⟩
 unfold Cu
 simp only [Bool.and_eq_true,decide_eq_true_eq]
 refine ⟨⟨⟨⟨by rw [h1]; exact h2,?_⟩,by omega⟩,h5⟩,h0⟩
 rw [List.all_eq_true]
 intro b hb
 have g1:=(List.all_eq_true.1 h3) b hb
 have g2:=(List.all_eq_true.1 h4) b hb
 cases b with
 | own c=>rw [h1]; exact g1
 | bf i j=>cases g2
 | _=>rfl
theorem nG {o:Oper} {fo:Operand} {args:Array Operand} {ts:Array TypeId} (ho:o.op = .call { callee:=.value fo,args:=args,argTypes:=ts }) {g:FuncId} {cap:List PV} (hfo:s.ev fo = .p (.fn g cap)) {avs:List AV} {H0 X:az} {eT:AV→az→Prop}
  (hc:IU P g avs H0 eT) (hH:s.H=H0++X) (hargs:args.toList.map s.ev++cap.map .p=avs) (ha:avs.all (bj H0.length)=true) (hs:H0.all (bD H0.length)=true) (h0:H0.all cf=true) (bD:∀ r H1,eT r H1→EI H0.length r H0 H1=true) :
  EB P o s (fun av H'=>∃ H1,eT av H1∧H' = H1++X):=by
 have hn:∀ r H1,eT r H1→H1.length=H0.length:=fun r H1 h=>(xL h0 rfl (bD r H1 h)).2.1
 have hargN:∀ (l:List AV),l.all (bj H0.length)=true→mM (List.range H0.length) l l:=by
  intro l
  induction l with
  | nil=>intro _; trivial
  | cons x r ih =>
   intro hl
   rw [List.all_cons,Bool.and_eq_true] at hl
   refine ⟨?_,ih hl.2⟩
   cases x with
   | p v=>rfl
   | _=>exact ⟨(fO hl.1).symm,by rw [List.length_range]; exact hl.1⟩
 have:=wA (P:=P) (s:=s) ho hfo hc (ks:=List.range H0.length) (by rw [hargs]; exact iZ (hargN _ ha)) (by rw [hH]; exact kM fun b hb=>(List.all_eq_true.1 hs) b hb) List.nodup_range (fun k hk=>by rw [hH,List.length_append]; have:=List.mem_range.1 hk; omega) h0 fun r H1 h=>(xL h0 rfl (bD r H1 h)).1
 intro C m a w K Q R hK
 refine this C m a w K Q R fun v m' w' av H' hO R2 hv=>hK v m' w' av H' ?_ R2 hv
 obtain ⟨r,H1,hP,rfl,rfl⟩:=hO
 obtain ⟨_,g2,g3,g4⟩:=xL h0 rfl (bD r H1 hP)
 rw [List.length_range,g2,Nat.sub_self,List.range'_zero,List.append_nil,fO g3]
 refine ⟨H1,hP,?_⟩
 have hm:H1.map (aH.aY (List.range H0.length))=H1:=by
  have:=List.map_congr_left (f:=aH.aY (List.range H0.length)) (g:=id) fun x hx=>rT (g4 x hx)
  rw [this,List.map_id]
 rw [hm,qw _ _ _ List.nodup_range (by rw [List.length_range,g2]),hH,vH g2]
theorem gI {all:Array Oper} {rest:List Oper} {K:St→Prop} {dst:Option Tmp} {ty:TypeId} {pos:String} {aft:Array Edge} {gd:Option (Nat × Bool)} {fo:Operand} {args:Array Operand} {ts:Array TypeId} {g:FuncId} {avs:List AV} {H0 H1 X:az} {r:AV}
  (hc:zI P g avs H0 r H1) {cap:List PV} (hfo:s.ev fo = .p (.fn g cap)) (hg:a8 all s { dst:=dst,op:=.call { callee:=.value fo,args:=args,argTypes:=ts },type:=ty,pos:=pos,after:=aft,guard:=gd } = some true)
  (hH:s.H=H0++X) (hargs:args.toList.map s.ev++cap.map .p=avs) (ha:avs.all (bj H0.length)=true) (hs:H0.all (bD H0.length)=true) (h0:H0.all cf=true) (bD:EI H0.length r H0 H1=true) (hd:ay s dst)
  (h:dL P false all rest K (({ s with H:=H1++X } : St).put dst r)) :
  dL P false all ({ dst:=dst,op:=.call { callee:=.value fo,args:=args,argTypes:=ts },type:=ty,pos:=pos,after:=aft,guard:=gd } :: rest) K s:=by
 obtain ⟨s',hr,hK⟩:=h
 refine ⟨s',.cons (.op s _ _ hg (bC hd) ?_ fun h=>by cases h) hr,hK⟩
 intro C m a w K Q R hK
 exact nG (P:=P) rfl hfo hc.Je hH hargs ha hs h0 (fun r' H' h=>by rw [h.1,h.2]; exact bD) C m a w K Q R fun v m' w' av H' ⟨H1',⟨e1,e2⟩,e3⟩ R2 hv=>by
  subst e1 e2 e3
  exact hK v m' w' R2 hv
theorem uD {all:Array Oper} {rest:List Oper} {K:St→List I2→Prop} {acc:List I2} {dst:Option Tmp} {ty:TypeId} {pos:String} {aft:Array Edge} {gd:Option (Nat × Bool)} {fo:Operand} {args:Array Operand} {ts:Array TypeId} {g:FuncId} {avs:List AV} {H0 H1 X:az} {r:AV}
  (hc:zI P g avs H0 r H1) {cap:List PV} (hfo:s.ev fo = .p (.fn g cap)) (hg:a8 all s { dst:=dst,op:=.call { callee:=.value fo,args:=args,argTypes:=ts },type:=ty,pos:=pos,after:=aft,guard:=gd } = some true)
  (hH:s.H=H0++X) (hargs:args.toList.map s.ev++cap.map .p=avs) (ha:avs.all (bj H0.length)=true) (hs:H0.all (bD H0.length)=true) (h0:H0.all cf=true) (bD:EI H0.length r H0 H1=true) (hd:ay s dst)
  (h:fE P all rest K (({ s with H:=H1++X } : St).put dst r) (acc++[⟨.ms ((List.range H0.length).zip H1),r,.dead,false⟩])) :
  fE P all ({ dst:=dst,op:=.call { callee:=.value fo,args:=args,argTypes:=ts },type:=ty,pos:=pos,after:=aft,guard:=gd } :: rest) K s acc:=by
 obtain ⟨g1,g2,g3,g4⟩:=xL h0 rfl bD
 have hargN:∀ (l:List AV),l.all (bj H0.length)=true→mM (List.range H0.length) l l:=by
  intro l
  induction l with
  | nil=>intro _; trivial
  | cons x r ih =>
   intro hl
   rw [List.all_cons,Bool.and_eq_true] at hl
   refine ⟨?_,ih hl.2⟩
   cases x with
   | p v=>rfl
   | _=>exact ⟨(fO hl.1).symm,by rw [List.length_range]; exact hl.1⟩
 have hm:H1.map (aH.aY (List.range H0.length))=H1:=by
  have:=List.map_congr_left (f:=aH.aY (List.range H0.length)) (g:=id) fun x hx=>rT (g4 x hx)
  rw [this,List.map_id]
 refine va (List.range H0.length) hc (by rw [List.length_range,g2]) hfo hg (by rw [hargs]; exact hargN _ ha) (by rw [hH]; exact kM fun b hb=>(List.all_eq_true.1 hs) b hb) List.nodup_range (fun k hk=>by rw [hH,List.length_append]; have:=List.mem_range.1 hk; omega) g1 hd ?_
 rw [hm,hH,vH g2,fO g3]
 exact h
end
open Go.RowKit
section
variable {P:Program} {C:Ctx} {m:Map} {s:St} {tmps:Array Value} {w:World}
end
end Go.Pv
namespace Go.Proofs.YtpobnnfkeekiaaaDoor.Pr
open Go.Pv
theorem eG (c a:Int):ct Tryd.prog 56 [.int .i64 c,.int .i64 a] (.agg [.int .i64 c,.int .i64 a]):=by
 refine aV ae Tryd.func56 rfl (by kernel_rfl) (by rw [Tryd.ntmps56]; exact Nat.le_add_left 2 _) ?_; rw [Tryd.ntmps56]; repeat (first|refine qa ?_|refine qb ?_|refine qc ?_|refine qd ?_|refine qe ?_|refine qf ?_|refine qg rfl ?_|refine qh ?_|refine qi ?_|refine qj ?_|refine qk ?_|refine ql ?_|refine qm ?_)
 (refine ab fun K hK=>aa ae ?_); simp only [an,gp,ak,simprocAttr,reduceCtorEq,reduceIte]; refine af trivial (hK _ ?_)<;>clear hK K; repeat (first|refine qa ?_|refine qb ?_|refine qc ?_|refine qd ?_|refine qe ?_|refine qf ?_|refine qg rfl ?_|refine qh ?_|refine qi ?_|refine qj ?_|refine qk ?_|refine ql ?_|refine qm ?_)
 (refine ab fun K hK=>aa ae ?_); simp only [an,gp,ak,simprocAttr,reduceCtorEq,reduceIte]; refine af trivial (hK _ ?_)<;>clear hK K; repeat (first|refine qa ?_|refine qb ?_|refine qc ?_|refine qd ?_|refine qe ?_|refine qf ?_|refine qg rfl ?_|refine qh ?_|refine qi ?_|refine qj ?_|refine qk ?_|refine ql ?_|refine qm ?_)
 simp only [Tryd.results56,eT,jt,dk,kR,bY,eW,bH,cg,aU,PV.norm,PV.eS,PV.dU,PV.list.injEq,PV.tup.injEq,PV.agg.injEq,PV.int.injEq,PV.bool.injEq,List.cons.injEq,an,gp,ak,simprocAttr,reduceCtorEq,reduceIte]
def qo:Nat→List Int→Int × Int
 | _,[]=>(0,0)
 | i,x :: r=>if x=0∨x < -26∨x > 26 then (3,i) else qo (i + 1) r
def check (w:List Int):Int × Int:=if (w.length:Int) > 2000 then (2,0) else qo 0 w
def fl (p:Int × Int):PV:=.agg [.int .i64 p.1,.int .i64 p.2]
theorem mF (w:List Int):ct Tryd.prog 51 [.list (il w)] (fl (check w)):=by
 refine aV ae Tryd.func51 rfl (by kernel_rfl) (by rw [Tryd.ntmps51]; exact Nat.le_add_left 1 _) ?_; rw [Tryd.ntmps51]; repeat (first|refine qa ?_|refine qb ?_|refine qc ?_|refine qd ?_|refine qe ?_|refine qf ?_|refine qg rfl ?_|refine qh ?_|refine qi ?_|refine qj ?_|refine qk ?_|refine ql ?_|refine qm ?_)
 (refine ab fun K hK=>aa ae ?_); simp only [an,gp,ak,simprocAttr,reduceCtorEq,reduceIte]; refine af trivial (hK _ ?_)<;>clear hK K; repeat (first|refine qa ?_|refine qb ?_|refine qc ?_|refine qd ?_|refine qe ?_|refine qf ?_|refine qg rfl ?_|refine qh ?_|refine qi ?_|refine qj ?_|refine qk ?_|refine ql ?_|refine qm ?_)
 (refine ab fun K hK=>aa ae ?_); simp only [an,gp,ak,simprocAttr,reduceCtorEq,reduceIte,aw]; refine af trivial (hK _ ?_)<;>clear hK K; repeat (first|refine qa ?_|refine qb ?_|refine qc ?_|refine qd ?_|refine qe ?_|refine qf ?_|refine qg rfl ?_|refine qh ?_|refine qi ?_|refine qj ?_|refine qk ?_|refine ql ?_|refine qm ?_)
 refine aq rfl (fun h=>?_) (fun h=>?_)
 ·repeat (first|refine qa ?_|refine qb ?_|refine qc ?_|refine qd ?_|refine qe ?_|refine qf ?_|refine qg rfl ?_|refine qh ?_|refine qi ?_|refine qj ?_|refine qk ?_|refine ql ?_|refine qm ?_)
  refine ab fun K hK=>aa ae ?_
  simp only [an,gp,ak,simprocAttr,reduceCtorEq,reduceIte]
  refine ao trivial (au (eG 2 0) rfl rfl rfl (by simp only [ay,Nat.reduceLT]) (by repeat (first|exact trivial|constructor)) (aa ae ?_))
  simp only [an,gp,ak,simprocAttr,reduceCtorEq,reduceIte]
  refine af trivial (hK _ ?_)<;>clear hK K
  repeat (first|refine qa ?_|refine qb ?_|refine qc ?_|refine qd ?_|refine qe ?_|refine qf ?_|refine qg rfl ?_|refine qh ?_|refine qi ?_|refine qj ?_|refine qk ?_|refine ql ?_|refine qm ?_)
  simp only [Tryd.results51,eT,jt,dk,kR,bY,eW,bH,cg,aU,PV.norm,PV.eS,PV.dU,PV.list.injEq,PV.tup.injEq,PV.agg.injEq,PV.int.injEq,PV.bool.injEq,List.cons.injEq,an,gp,ak,simprocAttr,reduceCtorEq,reduceIte]
  simp [check,fl,of_decide_eq_true h]
 repeat (first|refine qa ?_|refine qb ?_|refine qc ?_|refine qd ?_|refine qe ?_|refine qf ?_|refine qg rfl ?_|refine qh ?_|refine qi ?_|refine qj ?_|refine qk ?_|refine ql ?_|refine qm ?_)
 (refine ab fun K hK=>aa ae ?_); simp only [an,gp,ak,simprocAttr,reduceCtorEq,reduceIte,aw]; refine af trivial (hK _ ?_)<;>clear hK K; repeat (first|refine qa ?_|refine qb ?_|refine qc ?_|refine qd ?_|refine qe ?_|refine qf ?_|refine qg rfl ?_|refine qh ?_|refine qi ?_|refine qj ?_|refine qk ?_|refine ql ?_|refine qm ?_)
 have hw:w.length≤2000:=by have:=of_decide_eq_false h; omega
 refine aD (ι:=Nat) (fun i=>⟨30,[(2,.ptr 0 0),(9,.p (.list (il w))),(10,.p (.int .i64 w.length)),(11,.p (.int .i64 i))],[.own [.p (.int .i64 0),.p (.int .i64 0)]]⟩) (fun i=>i≤w.length∧qo i (w.drop i)=qo 0 w) (fun i=>w.length - i) 0 ⟨Nat.zero_le _,rfl⟩ [0] (by simp only [AV.p.injEq,AV.sl.injEq,AV.ptr.injEq,aH.own.injEq,PV.int.injEq,PV.bool.injEq,PV.list.injEq,Nat.sub_zero,Int.natCast_add,List.length_append,aX,bM,bN,Le,dQ,jr,dJ,aY,bg,bj,bn,List.nodup_cons,List.nodup_nil,List.mem_cons,List.not_mem_nil,or_false,not_false_eq_true,an,gp,ak,simprocAttr,reduceCtorEq,reduceIte]<;>trivial) fun i hi=>?_
 repeat (first|refine qa ?_|refine qb ?_|refine qc ?_|refine qd ?_|refine qe ?_|refine qf ?_|refine qg rfl ?_|refine qh ?_|refine qi ?_|refine qj ?_|refine qk ?_|refine ql ?_|refine qm ?_)
 (refine ab fun K hK=>aa ae ?_); simp only [an,gp,ak,simprocAttr,reduceCtorEq,reduceIte]; refine af trivial (hK _ ?_)<;>clear hK K; repeat (first|refine qa ?_|refine qb ?_|refine qc ?_|refine qd ?_|refine qe ?_|refine qf ?_|refine qg rfl ?_|refine qh ?_|refine qi ?_|refine qj ?_|refine qk ?_|refine ql ?_|refine qm ?_)
 refine aq rfl (fun hlt=>?_) (fun hlt=>?_)
 ·repeat (first|refine qa ?_|refine qb ?_|refine qc ?_|refine qd ?_|refine qe ?_|refine qf ?_|refine qg rfl ?_|refine qh ?_|refine qi ?_|refine qj ?_|refine qk ?_|refine ql ?_|refine qm ?_)
  have hlt:i < w.length:=by have:=of_decide_eq_true hlt; omega
  refine ab fun K hK=>aa ae ?_
  simp only [an,gp,ak,simprocAttr,reduceCtorEq,reduceIte,aL hlt,aw]
  refine af ?_ (hK _ ?_)<;>clear hK K
  ·omega
  repeat (first|refine qa ?_|refine qb ?_|refine qc ?_|refine qd ?_|refine qe ?_|refine qf ?_|refine qg rfl ?_|refine qh ?_|refine qi ?_|refine qj ?_|refine qk ?_|refine ql ?_|refine qm ?_)
  obtain ⟨hi1,hi2⟩:=hi
  have hdrop:w.drop i=w.getD i 0 :: w.drop (i + 1):=by
   rw [List.drop_eq_getElem_cons hlt]; simp [List.getD,List.getElem?_eq_getElem hlt]
  have next:¬ (w.getD i 0=0∨w.getD i 0 < -26∨w.getD i 0 > 26)→qo (i + 1) (w.drop (i + 1))=qo 0 w:=by
   intro hn
   rw [hdrop,qo,if_neg hn] at hi2; exact hi2
  have last:(w.getD i 0=0∨w.getD i 0 < -26∨w.getD i 0 > 26)→qo 0 w=(3,(i:Int)):=by
   intro hn
   rw [hdrop,qo,if_pos hn] at hi2; exact hi2.symm
  generalize w.getD i 0=x at *
  refine wI ⟨30,[(25,.p (.bool (decide (x=0∨x < -26∨x > 26)))),(3,.p (.int .i64 i)),(2,.ptr 0 0),(9,.p (.list (il w))),(10,.p (.int .i64 w.length)),(11,.p (.int .i64 i))],[.own [.p (.int .i64 0),.p (.int .i64 0)]]⟩ ?_ ?_
  ·cases e1:(x == 0)
   ·cases e2:decide (x < -26)
    ·refine ab fun K hK=>aa ae ?_
     simp only [an,gp,ak,simprocAttr,reduceCtorEq,reduceIte,e1,e2]
     refine af trivial (hK _ ?_)<;>clear hK K
     refine ⟨rfl,[0],?_⟩; simp only [AV.p.injEq,AV.sl.injEq,AV.ptr.injEq,aH.own.injEq,PV.int.injEq,PV.bool.injEq,PV.list.injEq,Nat.sub_zero,Int.natCast_add,List.length_append,aX,bM,bN,Le,dQ,jr,dJ,aY,bg,bj,bn,List.nodup_cons,List.nodup_nil,List.mem_cons,List.not_mem_nil,or_false,not_false_eq_true,an,gp,ak,simprocAttr,reduceCtorEq,reduceIte]; (first|exact trivial|omega|(simp only [ah] at *; omega)|(rw [Bool.eq_iff_iff]; simp; done)|(rw [Bool.eq_iff_iff]; simp; omega)|(simp [ah] at *; omega)|(simp_all; done)|(simp_all [ah]<;>omega)|skip)
    refine ab fun K hK=>aa ae ?_
    simp only [an,gp,ak,simprocAttr,reduceCtorEq,reduceIte,e1,e2]
    refine af trivial (hK _ ?_)<;>clear hK K
    refine ⟨rfl,[0],?_⟩; simp only [AV.p.injEq,AV.sl.injEq,AV.ptr.injEq,aH.own.injEq,PV.int.injEq,PV.bool.injEq,PV.list.injEq,Nat.sub_zero,Int.natCast_add,List.length_append,aX,bM,bN,Le,dQ,jr,dJ,aY,bg,bj,bn,List.nodup_cons,List.nodup_nil,List.mem_cons,List.not_mem_nil,or_false,not_false_eq_true,an,gp,ak,simprocAttr,reduceCtorEq,reduceIte]; (first|exact trivial|omega|(simp only [ah] at *; omega)|(rw [Bool.eq_iff_iff]; simp; done)|(rw [Bool.eq_iff_iff]; simp; omega)|(simp [ah] at *; omega)|(simp_all; done)|(simp_all [ah]<;>omega)|skip)
   refine ab fun K hK=>aa ae ?_
   simp only [an,gp,ak,simprocAttr,reduceCtorEq,reduceIte,e1]
   refine af trivial (hK _ ?_)<;>clear hK K
   refine ⟨rfl,[0],?_⟩; simp only [AV.p.injEq,AV.sl.injEq,AV.ptr.injEq,aH.own.injEq,PV.int.injEq,PV.bool.injEq,PV.list.injEq,Nat.sub_zero,Int.natCast_add,List.length_append,aX,bM,bN,Le,dQ,jr,dJ,aY,bg,bj,bn,List.nodup_cons,List.nodup_nil,List.mem_cons,List.not_mem_nil,or_false,not_false_eq_true,an,gp,ak,simprocAttr,reduceCtorEq,reduceIte]; (first|exact trivial|omega|(simp only [ah] at *; omega)|(rw [Bool.eq_iff_iff]; simp; done)|(rw [Bool.eq_iff_iff]; simp; omega)|(simp [ah] at *; omega)|(simp_all; done)|(simp_all [ah]<;>omega)|skip)
  refine aq rfl (fun hc=>?_) (fun hc=>?_)
  ·repeat (first|refine qa ?_|refine qb ?_|refine qc ?_|refine qd ?_|refine qe ?_|refine qf ?_|refine qg rfl ?_|refine qh ?_|refine qi ?_|refine qj ?_|refine qk ?_|refine ql ?_|refine qm ?_)
   refine ab fun K hK=>aa ae ?_
   simp only [an,gp,ak,simprocAttr,reduceCtorEq,reduceIte]
   refine ao trivial (au (eG 3 i) rfl rfl rfl (by simp only [ay,Nat.reduceLT]) (by repeat (first|exact trivial|constructor)) (aa ae ?_))
   simp only [an,gp,ak,simprocAttr,reduceCtorEq,reduceIte]
   refine af trivial (hK _ ?_)<;>clear hK K
   repeat (first|refine qa ?_|refine qb ?_|refine qc ?_|refine qd ?_|refine qe ?_|refine qf ?_|refine qg rfl ?_|refine qh ?_|refine qi ?_|refine qj ?_|refine qk ?_|refine ql ?_|refine qm ?_)
   simp only [Tryd.results51,eT,jt,dk,kR,bY,eW,bH,cg,aU,PV.norm,PV.eS,PV.dU,PV.list.injEq,PV.tup.injEq,PV.agg.injEq,PV.int.injEq,PV.bool.injEq,List.cons.injEq,an,gp,ak,simprocAttr,reduceCtorEq,reduceIte]
   rw [check,if_neg (by omega),last (of_decide_eq_true hc)]; rfl
  repeat (first|refine qa ?_|refine qb ?_|refine qc ?_|refine qd ?_|refine qe ?_|refine qf ?_|refine qg rfl ?_|refine qh ?_|refine qi ?_|refine qj ?_|refine qk ?_|refine ql ?_|refine qm ?_)
  refine ab fun K hK=>aa ae ?_
  simp only [an,gp,ak,simprocAttr,reduceCtorEq,reduceIte]
  refine af ?_ (hK _ ?_)<;>clear hK K
  ·(first|exact trivial|omega|(simp only [ah] at *; omega)|(rw [Bool.eq_iff_iff]; simp; done)|(rw [Bool.eq_iff_iff]; simp; omega)|(simp [ah] at *; omega)|(simp_all; done)|(simp_all [ah]<;>omega)|skip)
  repeat (first|refine qa ?_|refine qb ?_|refine qc ?_|refine qd ?_|refine qe ?_|refine qf ?_|refine qg rfl ?_|refine qh ?_|refine qi ?_|refine qj ?_|refine qk ?_|refine ql ?_|refine qm ?_)
  refine ⟨i + 1,[0],⟨by omega,next (of_decide_eq_false hc)⟩,by omega,?_⟩
  simp only [AV.p.injEq,AV.sl.injEq,AV.ptr.injEq,aH.own.injEq,PV.int.injEq,PV.bool.injEq,PV.list.injEq,Nat.sub_zero,Int.natCast_add,List.length_append,aX,bM,bN,Le,dQ,jr,dJ,aY,bg,bj,bn,List.nodup_cons,List.nodup_nil,List.mem_cons,List.not_mem_nil,or_false,not_false_eq_true,an,gp,ak,simprocAttr,reduceCtorEq,reduceIte]<;>(first|exact trivial|omega|(simp only [ah] at *; omega)|(rw [Bool.eq_iff_iff]; simp; done)|(rw [Bool.eq_iff_iff]; simp; omega)|(simp [ah] at *; omega)|(simp_all; done)|(simp_all [ah]<;>omega)|skip)
 repeat (first|refine qa ?_|refine qb ?_|refine qc ?_|refine qd ?_|refine qe ?_|refine qf ?_|refine qg rfl ?_|refine qh ?_|refine qi ?_|refine qj ?_|refine qk ?_|refine ql ?_|refine qm ?_)
 (refine ab fun K hK=>aa ae ?_); simp only [an,gp,ak,simprocAttr,reduceCtorEq,reduceIte]; refine af trivial (hK _ ?_)<;>clear hK K; repeat (first|refine qa ?_|refine qb ?_|refine qc ?_|refine qd ?_|refine qe ?_|refine qf ?_|refine qg rfl ?_|refine qh ?_|refine qi ?_|refine qj ?_|refine qk ?_|refine ql ?_|refine qm ?_)
 simp only [Tryd.results51,eT,jt,dk,kR,bY,eW,bH,cg,aU,PV.norm,PV.eS,PV.dU,PV.list.injEq,PV.tup.injEq,PV.agg.injEq,PV.int.injEq,PV.bool.injEq,List.cons.injEq,an,gp,ak,simprocAttr,reduceCtorEq,reduceIte]
 have:i=w.length:=by have:=of_decide_eq_false hlt; omega
 rw [check,if_neg (by omega),← hi.2,this,List.drop_length]; rfl
def push (o:List Int) (x:Int):List Int:=if 0 < o.length∧o.getD (o.length - 1) 0 = -x then o.take (o.length - 1) else o++[x]
def short (w:List Int):List Int:=w.foldl push []
def Sm (w:List Int):Prop:=∀ x∈w,-26≤x∧x≤26
theorem B6 (o:List Int) (x:Int):(push o x).length≤o.length + 1:=by
 unfold push; split<;>simp<;>omega
theorem wM (w:List Int) (i:Nat) (h:i < w.length):short (w.take (i + 1))=push (short (w.take i)) (w.getD i 0):=by
 rw [List.take_succ_eq_append_getElem h]
 simp only [short,List.foldl_append,List.foldl_cons,List.foldl_nil,List.getD,List.getElem?_eq_getElem h,Option.getD_some]
theorem nj (w:List Int):(short w).length≤w.length:=by
 have:∀ (w o:List Int),(w.foldl push o).length≤o.length + w.length:=by
  intro w
  induction w with
  | nil=>intro o; simp
  | cons x r ih=>intro o; have:=ih (push o x); have:=B6 o x; simp at *; omega
 have:=this w []
 simpa [short] using this
theorem Cz (w:List Int) (hl:w.length≤1000000000) (hs:Sm w):ct Tryd.prog 44 [.list (il w)] (.list (il (short w))):=by
 refine aV ae Tryd.func44 rfl (by kernel_rfl) (by rw [Tryd.ntmps44]; exact Nat.le_add_left 1 _) ?_; rw [Tryd.ntmps44]; repeat (first|refine qa ?_|refine qb ?_|refine qc ?_|refine qd ?_|refine qe ?_|refine qf ?_|refine qg rfl ?_|refine qh ?_|refine qi ?_|refine qj ?_|refine qk ?_|refine ql ?_|refine qm ?_)
 (refine ab fun K hK=>aa ae ?_); simp only [an,gp,ak,simprocAttr,reduceCtorEq,reduceIte]; refine af trivial (hK _ ?_)<;>clear hK K; repeat (first|refine qa ?_|refine qb ?_|refine qc ?_|refine qd ?_|refine qe ?_|refine qf ?_|refine qg rfl ?_|refine qh ?_|refine qi ?_|refine qj ?_|refine qk ?_|refine ql ?_|refine qm ?_)
 refine ab fun K hK=>aa ae ?_
 simp only [an,gp,ak,simprocAttr,reduceCtorEq,reduceIte]
 refine af ?_ (hK _ ?_)<;>clear hK K
 ·(first|exact trivial|omega|(simp only [ah] at *; omega)|(rw [Bool.eq_iff_iff]; simp; done)|(rw [Bool.eq_iff_iff]; simp; omega)|(simp [ah] at *; omega)|(simp_all; done)|(simp_all [ah]<;>omega)|skip)
 repeat (first|refine qa ?_|refine qb ?_|refine qc ?_|refine qd ?_|refine qe ?_|refine qf ?_|refine qg rfl ?_|refine qh ?_|refine qi ?_|refine qj ?_|refine qk ?_|refine ql ?_|refine qm ?_)
 (refine ab fun K hK=>aa ae ?_); simp only [an,gp,ak,simprocAttr,reduceCtorEq,reduceIte]; refine af trivial (hK _ ?_)<;>clear hK K; repeat (first|refine qa ?_|refine qb ?_|refine qc ?_|refine qd ?_|refine qe ?_|refine qf ?_|refine qg rfl ?_|refine qh ?_|refine qi ?_|refine qj ?_|refine qk ?_|refine ql ?_|refine qm ?_)
 refine aD (ι:=Nat) (fun i=>⟨40,[(3,.sl 0 0 (short (w.take i)).length),(10,.p (.list (il w))),(11,.p (.int .i64 w.length)),(12,.p (.int .i64 i))],[.own (ol (short (w.take i)))]⟩) (fun i=>i≤w.length) (fun i=>w.length - i) 0 (Nat.zero_le _) [0] (by simp only [AV.p.injEq,AV.sl.injEq,AV.ptr.injEq,aH.own.injEq,PV.int.injEq,PV.bool.injEq,PV.list.injEq,Nat.sub_zero,Int.natCast_add,List.length_append,aX,bM,bN,Le,dQ,jr,dJ,aY,bg,bj,bn,List.nodup_cons,List.nodup_nil,List.mem_cons,List.not_mem_nil,or_false,not_false_eq_true,an,gp,ak,simprocAttr,reduceCtorEq,reduceIte]<;>trivial) fun i hi=>?_
 repeat (first|refine qa ?_|refine qb ?_|refine qc ?_|refine qd ?_|refine qe ?_|refine qf ?_|refine qg rfl ?_|refine qh ?_|refine qi ?_|refine qj ?_|refine qk ?_|refine ql ?_|refine qm ?_)
 (refine ab fun K hK=>aa ae ?_); simp only [an,gp,ak,simprocAttr,reduceCtorEq,reduceIte]; refine af trivial (hK _ ?_)<;>clear hK K; repeat (first|refine qa ?_|refine qb ?_|refine qc ?_|refine qd ?_|refine qe ?_|refine qf ?_|refine qg rfl ?_|refine qh ?_|refine qi ?_|refine qj ?_|refine qk ?_|refine ql ?_|refine qm ?_)
 refine aq rfl (fun hlt=>?_) (fun hlt=>?_)
 ·repeat (first|refine qa ?_|refine qb ?_|refine qc ?_|refine qd ?_|refine qe ?_|refine qf ?_|refine qg rfl ?_|refine qh ?_|refine qi ?_|refine qj ?_|refine qk ?_|refine ql ?_|refine qm ?_)
  have hlt:i < w.length:=by have:=of_decide_eq_true hlt; omega
  refine ab fun K hK=>aa ae ?_
  simp only [an,gp,ak,simprocAttr,reduceCtorEq,reduceIte,aL hlt]
  refine af ?_ (hK _ ?_)<;>clear hK K
  ·omega
  repeat (first|refine qa ?_|refine qb ?_|refine qc ?_|refine qd ?_|refine qe ?_|refine qf ?_|refine qg rfl ?_|refine qh ?_|refine qi ?_|refine qj ?_|refine qk ?_|refine ql ?_|refine qm ?_)
  have hx:=hs (w.getD i 0) (by simp [List.getD,List.getElem?_eq_getElem hlt])
  have hsn:=wM w i hlt
  have hle:=nj (w.take i)
  rw [List.length_take] at hle
  generalize short (w.take i)=o at *
  generalize w.getD i 0=x at *
  (refine ab fun K hK=>aa ae ?_); simp only [an,gp,ak,simprocAttr,reduceCtorEq,reduceIte]; refine af trivial (hK _ ?_)<;>clear hK K; repeat (first|refine qa ?_|refine qb ?_|refine qc ?_|refine qd ?_|refine qe ?_|refine qf ?_|refine qg rfl ?_|refine qh ?_|refine qi ?_|refine qj ?_|refine qk ?_|refine ql ?_|refine qm ?_)
  refine wI ⟨40,[(29,.p (.bool (decide (0 < o.length∧o.getD (o.length - 1) 0 = -x)))),(6,.p (.int .i64 o.length)),(5,.p (.int .i64 x)),(3,.sl 0 0 o.length),(10,.p (.list (il w))),(11,.p (.int .i64 w.length)),(12,.p (.int .i64 i))],[.own (ol o)]⟩ ?_ ?_
  ·cases e0:decide ((o.length:Int) > 0)
   ·refine ab fun K hK=>aa ae ?_
    simp only [an,gp,ak,simprocAttr,reduceCtorEq,reduceIte,e0]
    refine af trivial (hK _ ?_)<;>clear hK K
    refine ⟨rfl,[0],?_⟩; simp only [AV.p.injEq,AV.sl.injEq,AV.ptr.injEq,aH.own.injEq,PV.int.injEq,PV.bool.injEq,PV.list.injEq,Nat.sub_zero,Int.natCast_add,List.length_append,aX,bM,bN,Le,dQ,jr,dJ,aY,bg,bj,bn,List.nodup_cons,List.nodup_nil,List.mem_cons,List.not_mem_nil,or_false,not_false_eq_true,an,gp,ak,simprocAttr,reduceCtorEq,reduceIte]; (first|exact trivial|omega|(simp only [ah] at *; omega)|(rw [Bool.eq_iff_iff]; simp; done)|(rw [Bool.eq_iff_iff]; simp; omega)|(simp [ah] at *; omega)|(simp_all; done)|(simp_all [ah]<;>omega)|skip)
   have h0:o.length - 1 < o.length:=by have:=of_decide_eq_true e0; omega
   refine ab fun K hK=>aa ae ?_
   simp only [an,gp,ak,simprocAttr,reduceCtorEq,reduceIte,e0,bt h0]
   refine af ?_ (hK _ ?_)<;>clear hK K
   ·(first|exact trivial|omega|(simp only [ah] at *; omega)|(rw [Bool.eq_iff_iff]; simp; done)|(rw [Bool.eq_iff_iff]; simp; omega)|(simp [ah] at *; omega)|(simp_all; done)|(simp_all [ah]<;>omega)|skip)
   refine ⟨rfl,[0],?_⟩; simp only [AV.p.injEq,AV.sl.injEq,AV.ptr.injEq,aH.own.injEq,PV.int.injEq,PV.bool.injEq,PV.list.injEq,Nat.sub_zero,Int.natCast_add,List.length_append,aX,bM,bN,Le,dQ,jr,dJ,aY,bg,bj,bn,List.nodup_cons,List.nodup_nil,List.mem_cons,List.not_mem_nil,or_false,not_false_eq_true,an,gp,ak,simprocAttr,reduceCtorEq,reduceIte]; (first|exact trivial|omega|(simp only [ah] at *; omega)|(rw [Bool.eq_iff_iff]; simp; done)|(rw [Bool.eq_iff_iff]; simp; omega)|(simp [ah] at *; omega)|(simp_all; done)|(simp_all [ah]<;>omega)|skip)
  refine aq rfl (fun hc=>?_) (fun hc=>?_)
  ·have hc:=of_decide_eq_true hc
   refine ab fun K hK=>aa ae ?_
   simp only [an,gp,ak,simprocAttr,reduceCtorEq,reduceIte]
   refine af ?_ (hK _ ?_)<;>clear hK K
   ·(first|exact trivial|omega|(simp only [ah] at *; omega)|(rw [Bool.eq_iff_iff]; simp; done)|(rw [Bool.eq_iff_iff]; simp; omega)|(simp [ah] at *; omega)|(simp_all; done)|(simp_all [ah]<;>omega)|skip)
   repeat (first|refine qa ?_|refine qb ?_|refine qc ?_|refine qd ?_|refine qe ?_|refine qf ?_|refine qg rfl ?_|refine qh ?_|refine qi ?_|refine qj ?_|refine qk ?_|refine ql ?_|refine qm ?_)
   refine ab fun K hK=>aa ae ?_
   simp only [an,gp,ak,simprocAttr,reduceCtorEq,reduceIte]
   refine af ?_ (hK _ ?_)<;>clear hK K
   ·(first|exact trivial|omega|(simp only [ah] at *; omega)|(rw [Bool.eq_iff_iff]; simp; done)|(rw [Bool.eq_iff_iff]; simp; omega)|(simp [ah] at *; omega)|(simp_all; done)|(simp_all [ah]<;>omega)|skip)
   repeat (first|refine qa ?_|refine qb ?_|refine qc ?_|refine qd ?_|refine qe ?_|refine qf ?_|refine qg rfl ?_|refine qh ?_|refine qi ?_|refine qj ?_|refine qk ?_|refine ql ?_|refine qm ?_)
   refine ⟨i + 1,[0],by omega,by omega,?_⟩
   rw [hsn,push,if_pos hc]
   simp only [AV.p.injEq,AV.sl.injEq,AV.ptr.injEq,aH.own.injEq,PV.int.injEq,PV.bool.injEq,PV.list.injEq,Nat.sub_zero,Int.natCast_add,List.length_append,aX,bM,bN,Le,dQ,jr,dJ,aY,bg,bj,bn,List.nodup_cons,List.nodup_nil,List.mem_cons,List.not_mem_nil,or_false,not_false_eq_true,an,gp,ak,simprocAttr,reduceCtorEq,reduceIte]
   (first|exact trivial|omega|(simp only [ah] at *; omega)|(rw [Bool.eq_iff_iff]; simp; done)|(rw [Bool.eq_iff_iff]; simp; omega)|(simp [ah] at *; omega)|(simp_all; done)|(simp_all [ah]<;>omega)|skip)
  have hc:=of_decide_eq_false hc
  refine ab fun K hK=>aa ae ?_
  simp only [an,gp,ak,simprocAttr,reduceCtorEq,reduceIte]
  refine af ?_ (hK _ ?_)<;>clear hK K
  ·(first|exact trivial|omega|(simp only [ah] at *; omega)|(rw [Bool.eq_iff_iff]; simp; done)|(rw [Bool.eq_iff_iff]; simp; omega)|(simp [ah] at *; omega)|(simp_all; done)|(simp_all [ah]<;>omega)|skip)
  repeat (first|refine qa ?_|refine qb ?_|refine qc ?_|refine qd ?_|refine qe ?_|refine qf ?_|refine qg rfl ?_|refine qh ?_|refine qi ?_|refine qj ?_|refine qk ?_|refine ql ?_|refine qm ?_)
  refine ab fun K hK=>aa ae ?_
  simp only [an,gp,ak,simprocAttr,reduceCtorEq,reduceIte]
  refine af ?_ (hK _ ?_)<;>clear hK K
  ·(first|exact trivial|omega|(simp only [ah] at *; omega)|(rw [Bool.eq_iff_iff]; simp; done)|(rw [Bool.eq_iff_iff]; simp; omega)|(simp [ah] at *; omega)|(simp_all; done)|(simp_all [ah]<;>omega)|skip)
  repeat (first|refine qa ?_|refine qb ?_|refine qc ?_|refine qd ?_|refine qe ?_|refine qf ?_|refine qg rfl ?_|refine qh ?_|refine qi ?_|refine qj ?_|refine qk ?_|refine ql ?_|refine qm ?_)
  refine ⟨i + 1,[1],by omega,by omega,?_⟩
  rw [hsn,push,if_neg hc]
  simp only [AV.p.injEq,AV.sl.injEq,AV.ptr.injEq,aH.own.injEq,PV.int.injEq,PV.bool.injEq,PV.list.injEq,Nat.sub_zero,Int.natCast_add,List.length_append,aX,bM,bN,Le,dQ,jr,dJ,aY,bg,bj,bn,List.nodup_cons,List.nodup_nil,List.mem_cons,List.not_mem_nil,or_false,not_false_eq_true,an,gp,ak,simprocAttr,reduceCtorEq,reduceIte]
  (first|exact trivial|omega|(simp only [ah] at *; omega)|(rw [Bool.eq_iff_iff]; simp; done)|(rw [Bool.eq_iff_iff]; simp; omega)|(simp [ah] at *; omega)|(simp_all; done)|(simp_all [ah]<;>omega)|skip)
 repeat (first|refine qa ?_|refine qb ?_|refine qc ?_|refine qd ?_|refine qe ?_|refine qf ?_|refine qg rfl ?_|refine qh ?_|refine qi ?_|refine qj ?_|refine qk ?_|refine ql ?_|refine qm ?_)
 (refine ab fun K hK=>aa ae ?_); simp only [an,gp,ak,simprocAttr,reduceCtorEq,reduceIte]; refine af trivial (hK _ ?_)<;>clear hK K; repeat (first|refine qa ?_|refine qb ?_|refine qc ?_|refine qd ?_|refine qe ?_|refine qf ?_|refine qg rfl ?_|refine qh ?_|refine qi ?_|refine qj ?_|refine qk ?_|refine ql ?_|refine qm ?_)
 simp only [Tryd.results44,eT,jt,dk,kR,bY,eW,bH,cg,aU,PV.norm,PV.eS,PV.dU,PV.list.injEq,PV.tup.injEq,PV.agg.injEq,PV.int.injEq,PV.bool.injEq,List.cons.injEq,an,gp,ak,simprocAttr,reduceCtorEq,reduceIte]
 have:i=w.length:=by have:=of_decide_eq_false hlt; omega
 rw [this,List.take_length]
 exact ⟨Nat.le_refl _,rfl⟩
def back (w:List Int):List Int:=(w.reverse).map (fun x=>-x)
theorem qB (w:List Int) (hl:w.length≤1000000000):ct Tryd.prog 8 [.list (il w)] (.list (il w)):=by
 refine aV ae Tryd.func8 rfl (by kernel_rfl) (by rw [Tryd.ntmps8]; exact Nat.le_add_left 1 _) ?_; rw [Tryd.ntmps8]; repeat (first|refine qa ?_|refine qb ?_|refine qc ?_|refine qd ?_|refine qe ?_|refine qf ?_|refine qg rfl ?_|refine qh ?_|refine qi ?_|refine qj ?_|refine qk ?_|refine ql ?_|refine qm ?_)
 (refine ab fun K hK=>aa ae ?_); simp only [an,gp,ak,simprocAttr,reduceCtorEq,reduceIte]; refine af trivial (hK _ ?_)<;>clear hK K; repeat (first|refine qa ?_|refine qb ?_|refine qc ?_|refine qd ?_|refine qe ?_|refine qf ?_|refine qg rfl ?_|refine qh ?_|refine qi ?_|refine qj ?_|refine qk ?_|refine ql ?_|refine qm ?_)
 refine ab fun K hK=>aa ae ?_
 simp only [an,gp,ak,simprocAttr,reduceCtorEq,reduceIte]
 refine af ?_ (hK _ ?_)<;>clear hK K
 ·(first|exact trivial|omega|(simp only [ah] at *; omega)|(rw [Bool.eq_iff_iff]; simp; done)|(rw [Bool.eq_iff_iff]; simp; omega)|(simp [ah] at *; omega)|(simp_all; done)|(simp_all [ah]<;>omega)|skip)
 repeat (first|refine qa ?_|refine qb ?_|refine qc ?_|refine qd ?_|refine qe ?_|refine qf ?_|refine qg rfl ?_|refine qh ?_|refine qi ?_|refine qj ?_|refine qk ?_|refine ql ?_|refine qm ?_)
 simp only [Tryd.results8,eT,jt,dk,kR,bY,eW,bH,cg,aU,PV.norm,PV.eS,PV.dU,PV.list.injEq,PV.tup.injEq,PV.agg.injEq,PV.int.injEq,PV.bool.injEq,List.cons.injEq,an,gp,ak,simprocAttr,reduceCtorEq,reduceIte]
 simp
theorem CR (w:List Int) (hl:w.length≤1000000000):ct Tryd.prog 29 [.list (il w)] (.list (il w)):=by
 by_cases hw:w=[]
 ·subst hw
  refine aV ae Tryd.func29 rfl (by kernel_rfl) (by rw [Tryd.ntmps29]; exact Nat.le_add_left 1 _) ?_; rw [Tryd.ntmps29]; repeat (first|refine qa ?_|refine qb ?_|refine qc ?_|refine qd ?_|refine qe ?_|refine qf ?_|refine qg rfl ?_|refine qh ?_|refine qi ?_|refine qj ?_|refine qk ?_|refine ql ?_|refine qm ?_)
  (refine ab fun K hK=>aa ae ?_); simp only [an,gp,ak,simprocAttr,reduceCtorEq,reduceIte]; refine af trivial (hK _ ?_)<;>clear hK K; repeat (first|refine qa ?_|refine qb ?_|refine qc ?_|refine qd ?_|refine qe ?_|refine qf ?_|refine qg rfl ?_|refine qh ?_|refine qi ?_|refine qj ?_|refine qk ?_|refine ql ?_|refine qm ?_)
  refine GU 0 rfl ?_ ?_
  ·(refine ab fun K hK=>aa ae ?_); simp only [an,gp,ak,simprocAttr,reduceCtorEq,reduceIte]; refine af trivial (hK _ ?_)<;>clear hK K; repeat (first|refine qa ?_|refine qb ?_|refine qc ?_|refine qd ?_|refine qe ?_|refine qf ?_|refine qg rfl ?_|refine qh ?_|refine qi ?_|refine qj ?_|refine qk ?_|refine ql ?_|refine qm ?_)
   refine aq rfl (fun hc=>?_) (fun hc=>?_)
   ·repeat (first|refine qa ?_|refine qb ?_|refine qc ?_|refine qd ?_|refine qe ?_|refine qf ?_|refine qg rfl ?_|refine qh ?_|refine qi ?_|refine qj ?_|refine qk ?_|refine ql ?_|refine qm ?_)
    (refine ab fun K hK=>aa ae ?_); simp only [an,gp,ak,simprocAttr,reduceCtorEq,reduceIte]; refine af trivial (hK _ ?_)<;>clear hK K; repeat (first|refine qa ?_|refine qb ?_|refine qc ?_|refine qd ?_|refine qe ?_|refine qf ?_|refine qg rfl ?_|refine qh ?_|refine qi ?_|refine qj ?_|refine qk ?_|refine ql ?_|refine qm ?_)
    simp only [Tryd.results29,eT,jt,dk,kR,bY,eW,bH,cg,aU,PV.norm,PV.eS,PV.dU,PV.list.injEq,PV.tup.injEq,PV.agg.injEq,PV.int.injEq,PV.bool.injEq,List.cons.injEq,an,gp,ak,simprocAttr,reduceCtorEq,reduceIte]
    rfl
   cases hc
  (refine ab fun K hK=>aa ae ?_); simp only [an,gp,ak,simprocAttr,reduceCtorEq,reduceIte]; refine af trivial (hK _ ?_)<;>clear hK K; repeat (first|refine qa ?_|refine qb ?_|refine qc ?_|refine qd ?_|refine qe ?_|refine qf ?_|refine qg rfl ?_|refine qh ?_|refine qi ?_|refine qj ?_|refine qk ?_|refine ql ?_|refine qm ?_)
  refine aq rfl (fun hc=>?_) (fun hc=>?_)
  ·cases hc
  repeat (first|refine qa ?_|refine qb ?_|refine qc ?_|refine qd ?_|refine qe ?_|refine qf ?_|refine qg rfl ?_|refine qh ?_|refine qi ?_|refine qj ?_|refine qk ?_|refine ql ?_|refine qm ?_)
  refine ab fun K hK=>aa ae ?_
  simp only [an,gp,ak,simprocAttr,reduceCtorEq,reduceIte]
  refine ao trivial ?_
  refine cB (ra ae rfl rfl rfl rfl rfl rfl rfl) rfl (by simp only [ay,Nat.reduceLT]) (aa ae ?_)
  simp only [an,gp,ak,simprocAttr,reduceCtorEq,reduceIte]
  refine af trivial (hK _ ?_)<;>clear hK K
  repeat (first|refine qa ?_|refine qb ?_|refine qc ?_|refine qd ?_|refine qe ?_|refine qf ?_|refine qg rfl ?_|refine qh ?_|refine qi ?_|refine qj ?_|refine qk ?_|refine ql ?_|refine qm ?_)
  simp only [Tryd.results29,eT,jt,dk,kR,bY,eW,bH,cg,aU,PV.norm,PV.eS,PV.dU,PV.list.injEq,PV.tup.injEq,PV.agg.injEq,PV.int.injEq,PV.bool.injEq,List.cons.injEq,an,gp,ak,simprocAttr,reduceCtorEq,reduceIte]
  rfl
 have hne:il w ≠ []:=by intro h; exact hw (by simpa [il] using h)
 refine aV ae Tryd.func29 rfl (by kernel_rfl) (by rw [Tryd.ntmps29]; exact Nat.le_add_left 1 _) ?_; rw [Tryd.ntmps29]; repeat (first|refine qa ?_|refine qb ?_|refine qc ?_|refine qd ?_|refine qe ?_|refine qf ?_|refine qg rfl ?_|refine qh ?_|refine qi ?_|refine qj ?_|refine qk ?_|refine ql ?_|refine qm ?_)
 (refine ab fun K hK=>aa ae ?_); simp only [an,gp,ak,simprocAttr,reduceCtorEq,reduceIte]; refine af trivial (hK _ ?_)<;>clear hK K; repeat (first|refine qa ?_|refine qb ?_|refine qc ?_|refine qd ?_|refine qe ?_|refine qf ?_|refine qg rfl ?_|refine qh ?_|refine qi ?_|refine qj ?_|refine qk ?_|refine ql ?_|refine qm ?_)
 refine ab fun K hK=>aa ae ?_
 simp only [an,gp,ak,simprocAttr,reduceCtorEq,reduceIte]
 refine af ?_ (hK _ ?_)<;>clear hK K
 ·exact hne
 repeat (first|refine qa ?_|refine qb ?_|refine qc ?_|refine qd ?_|refine qe ?_|refine qf ?_|refine qg rfl ?_|refine qh ?_|refine qi ?_|refine qj ?_|refine qk ?_|refine ql ?_|refine qm ?_)
 refine aq rfl (fun hc=>?_) (fun hc=>?_)
 ·cases hc
 repeat (first|refine qa ?_|refine qb ?_|refine qc ?_|refine qd ?_|refine qe ?_|refine qf ?_|refine qg rfl ?_|refine qh ?_|refine qi ?_|refine qj ?_|refine qk ?_|refine ql ?_|refine qm ?_)
 refine ab fun K hK=>aa ae ?_
 simp only [an,gp,ak,simprocAttr,reduceCtorEq,reduceIte]
 refine af ?_ (hK _ ?_)<;>clear hK K
 ·have:0 < w.length:=List.length_pos_iff.2 hw
  (first|exact trivial|omega|(simp only [ah] at *; omega)|(rw [Bool.eq_iff_iff]; simp; done)|(rw [Bool.eq_iff_iff]; simp; omega)|(simp [ah] at *; omega)|(simp_all; done)|(simp_all [ah]<;>omega)|skip)
 repeat (first|refine qa ?_|refine qb ?_|refine qc ?_|refine qd ?_|refine qe ?_|refine qf ?_|refine qg rfl ?_|refine qh ?_|refine qi ?_|refine qj ?_|refine qk ?_|refine ql ?_|refine qm ?_)
 simp only [Tryd.results29,eT,jt,dk,kR,bY,eW,bH,cg,aU,PV.norm,PV.eS,PV.dU,PV.list.injEq,PV.tup.injEq,PV.agg.injEq,PV.int.injEq,PV.bool.injEq,List.cons.injEq,an,gp,ak,simprocAttr,reduceCtorEq,reduceIte]
 exact Nat.le_refl _
def kU (ls:List (List Int)):Nat:=ls.flatten.length
theorem Sm.app {v w:List Int} (hv:Sm v) (hw:Sm w):Sm (v++w):=by
 intro x hx
 rcases List.mem_append.1 hx with h | h
 ·exact hv x h
 exact hw x h
def II (o:List Int):Prop:=∀ i,i + 1 < o.length→o.getD i 0 ≠ -(o.getD (i + 1) 0)
theorem getD_take {o:List Int} {n i:Nat} (h:i < n):(o.take n).getD i 0=o.getD i 0:=by
 simp [List.getD,List.getElem?_take,h]
theorem II.take {o:List Int} (h:II o) (n:Nat):II (o.take n):=by
 intro i hi
 rw [List.length_take] at hi
 rw [getD_take (by omega),getD_take (by omega)]
 exact h i (by omega)
theorem pN (c a:Int):ct Tryd.prog 12 [.int .i64 c,.int .i64 a] (.agg [.int .i64 c,.int .i64 a]):=by
 refine aV ae Tryd.func12 rfl (by kernel_rfl) (by rw [Tryd.ntmps12]; exact Nat.le_add_left 2 _) ?_; rw [Tryd.ntmps12]; repeat (first|refine qa ?_|refine qb ?_|refine qc ?_|refine qd ?_|refine qe ?_|refine qf ?_|refine qg rfl ?_|refine qh ?_|refine qi ?_|refine qj ?_|refine qk ?_|refine ql ?_|refine qm ?_)
 (refine ab fun K hK=>aa ae ?_); simp only [an,gp,ak,simprocAttr,reduceCtorEq,reduceIte]; refine af trivial (hK _ ?_)<;>clear hK K; repeat (first|refine qa ?_|refine qb ?_|refine qc ?_|refine qd ?_|refine qe ?_|refine qf ?_|refine qg rfl ?_|refine qh ?_|refine qi ?_|refine qj ?_|refine qk ?_|refine ql ?_|refine qm ?_)
 (refine ab fun K hK=>aa ae ?_); simp only [an,gp,ak,simprocAttr,reduceCtorEq,reduceIte]; refine af trivial (hK _ ?_)<;>clear hK K; repeat (first|refine qa ?_|refine qb ?_|refine qc ?_|refine qd ?_|refine qe ?_|refine qf ?_|refine qg rfl ?_|refine qh ?_|refine qi ?_|refine qj ?_|refine qk ?_|refine ql ?_|refine qm ?_)
 simp only [Tryd.results12,eT,jt,dk,kR,bY,eW,bH,cg,aU,PV.norm,PV.eS,PV.dU,PV.list.injEq,PV.tup.injEq,PV.agg.injEq,PV.int.injEq,PV.bool.injEq,List.cons.injEq,an,gp,ak,simprocAttr,reduceCtorEq,reduceIte]
theorem uN (w:List Int):ct Tryd.prog 42 [.list (il w)] (fl (check w)):=by
 refine aV ae Tryd.func42 rfl (by kernel_rfl) (by rw [Tryd.ntmps42]; exact Nat.le_add_left 1 _) ?_; rw [Tryd.ntmps42]; repeat (first|refine qa ?_|refine qb ?_|refine qc ?_|refine qd ?_|refine qe ?_|refine qf ?_|refine qg rfl ?_|refine qh ?_|refine qi ?_|refine qj ?_|refine qk ?_|refine ql ?_|refine qm ?_)
 (refine ab fun K hK=>aa ae ?_); simp only [an,gp,ak,simprocAttr,reduceCtorEq,reduceIte]; refine af trivial (hK _ ?_)<;>clear hK K; repeat (first|refine qa ?_|refine qb ?_|refine qc ?_|refine qd ?_|refine qe ?_|refine qf ?_|refine qg rfl ?_|refine qh ?_|refine qi ?_|refine qj ?_|refine qk ?_|refine ql ?_|refine qm ?_)
 (refine ab fun K hK=>aa ae ?_); simp only [an,gp,ak,simprocAttr,reduceCtorEq,reduceIte]; refine af trivial (hK _ ?_)<;>clear hK K; repeat (first|refine qa ?_|refine qb ?_|refine qc ?_|refine qd ?_|refine qe ?_|refine qf ?_|refine qg rfl ?_|refine qh ?_|refine qi ?_|refine qj ?_|refine qk ?_|refine ql ?_|refine qm ?_)
 refine aq rfl (fun h=>?_) (fun h=>?_)
 ·repeat (first|refine qa ?_|refine qb ?_|refine qc ?_|refine qd ?_|refine qe ?_|refine qf ?_|refine qg rfl ?_|refine qh ?_|refine qi ?_|refine qj ?_|refine qk ?_|refine ql ?_|refine qm ?_)
  refine ab fun K hK=>aa ae ?_
  simp only [an,gp,ak,simprocAttr,reduceCtorEq,reduceIte]
  refine ao trivial (au (pN 2 0) rfl rfl rfl (by simp only [ay,Nat.reduceLT]) (by repeat (first|exact trivial|constructor)) (aa ae ?_))
  simp only [an,gp,ak,simprocAttr,reduceCtorEq,reduceIte]
  refine af trivial (hK _ ?_)<;>clear hK K
  repeat (first|refine qa ?_|refine qb ?_|refine qc ?_|refine qd ?_|refine qe ?_|refine qf ?_|refine qg rfl ?_|refine qh ?_|refine qi ?_|refine qj ?_|refine qk ?_|refine ql ?_|refine qm ?_)
  simp only [Tryd.results42,eT,jt,dk,kR,bY,eW,bH,cg,aU,PV.norm,PV.eS,PV.dU,PV.list.injEq,PV.tup.injEq,PV.agg.injEq,PV.int.injEq,PV.bool.injEq,List.cons.injEq,an,gp,ak,simprocAttr,reduceCtorEq,reduceIte]
  simp [check,fl,of_decide_eq_true h]
 have hw:w.length≤2000:=by have:=of_decide_eq_false h; omega
 repeat (first|refine qa ?_|refine qb ?_|refine qc ?_|refine qd ?_|refine qe ?_|refine qf ?_|refine qg rfl ?_|refine qh ?_|refine qi ?_|refine qj ?_|refine qk ?_|refine ql ?_|refine qm ?_)
 (refine ab fun K hK=>aa ae ?_); simp only [an,gp,ak,simprocAttr,reduceCtorEq,reduceIte]; refine af trivial (hK _ ?_)<;>clear hK K; repeat (first|refine qa ?_|refine qb ?_|refine qc ?_|refine qd ?_|refine qe ?_|refine qf ?_|refine qg rfl ?_|refine qh ?_|refine qi ?_|refine qj ?_|refine qk ?_|refine ql ?_|refine qm ?_)
 refine aD (ι:=Nat) (fun i=>⟨36,[(0,.p (.list (il w))),(2,.ptr 0 0),(3,.p (.int .i64 i))],[.own [.p (.int .i64 0),.p (.int .i64 0)]]⟩) (fun i=>i≤w.length∧qo i (w.drop i)=qo 0 w) (fun i=>w.length - i) 0 ⟨Nat.zero_le _,rfl⟩ [0] (by simp only [AV.p.injEq,AV.sl.injEq,AV.ptr.injEq,aH.own.injEq,PV.int.injEq,PV.bool.injEq,PV.list.injEq,Nat.sub_zero,Int.natCast_add,List.length_append,aX,bM,bN,Le,dQ,jr,dJ,aY,bg,bj,bn,List.nodup_cons,List.nodup_nil,List.mem_cons,List.not_mem_nil,or_false,not_false_eq_true,an,gp,ak,simprocAttr,reduceCtorEq,reduceIte]<;>trivial) fun i hi=>?_
 repeat (first|refine qa ?_|refine qb ?_|refine qc ?_|refine qd ?_|refine qe ?_|refine qf ?_|refine qg rfl ?_|refine qh ?_|refine qi ?_|refine qj ?_|refine qk ?_|refine ql ?_|refine qm ?_)
 (refine ab fun K hK=>aa ae ?_); simp only [an,gp,ak,simprocAttr,reduceCtorEq,reduceIte]; refine af trivial (hK _ ?_)<;>clear hK K; repeat (first|refine qa ?_|refine qb ?_|refine qc ?_|refine qd ?_|refine qe ?_|refine qf ?_|refine qg rfl ?_|refine qh ?_|refine qi ?_|refine qj ?_|refine qk ?_|refine ql ?_|refine qm ?_)
 refine aq rfl (fun hlt=>?_) (fun hlt=>?_)
 ·repeat (first|refine qa ?_|refine qb ?_|refine qc ?_|refine qd ?_|refine qe ?_|refine qf ?_|refine qg rfl ?_|refine qh ?_|refine qi ?_|refine qj ?_|refine qk ?_|refine ql ?_|refine qm ?_)
  have hlt:i < w.length:=by have:=of_decide_eq_true hlt; omega
  obtain ⟨hi1,hi2⟩:=hi
  have hdrop:w.drop i=w.getD i 0 :: w.drop (i + 1):=by
   rw [List.drop_eq_getElem_cons hlt]; simp [List.getD,List.getElem?_eq_getElem hlt]
  have next:¬ (w.getD i 0=0∨w.getD i 0 < -26∨w.getD i 0 > 26)→qo (i + 1) (w.drop (i + 1))=qo 0 w:=by
   intro hn
   rw [hdrop,qo,if_neg hn] at hi2; exact hi2
  have last:(w.getD i 0=0∨w.getD i 0 < -26∨w.getD i 0 > 26)→qo 0 w=(3,(i:Int)):=by
   intro hn
   rw [hdrop,qo,if_pos hn] at hi2; exact hi2.symm
  have hg:=aL hlt
  refine wI ⟨36,[(32,.p (.bool (decide (w.getD i 0=0∨w.getD i 0 < -26∨w.getD i 0 > 26)))),(0,.p (.list (il w))),(2,.ptr 0 0),(3,.p (.int .i64 i))],[.own [.p (.int .i64 0),.p (.int .i64 0)]]⟩ ?_ ?_
  ·generalize w.getD i 0=x at *
   cases e1:(x == 0)
   ·cases e2:decide (x > 26)
    ·refine ab fun K hK=>aa ae ?_
     simp only [an,gp,ak,simprocAttr,reduceCtorEq,reduceIte,hg,e1,e2]
     refine af ?_ (hK _ ?_)<;>clear hK K
     ·omega
     refine ⟨rfl,[0],?_⟩; simp only [AV.p.injEq,AV.sl.injEq,AV.ptr.injEq,aH.own.injEq,PV.int.injEq,PV.bool.injEq,PV.list.injEq,Nat.sub_zero,Int.natCast_add,List.length_append,aX,bM,bN,Le,dQ,jr,dJ,aY,bg,bj,bn,List.nodup_cons,List.nodup_nil,List.mem_cons,List.not_mem_nil,or_false,not_false_eq_true,an,gp,ak,simprocAttr,reduceCtorEq,reduceIte]; (first|exact trivial|omega|(simp only [ah] at *; omega)|(rw [Bool.eq_iff_iff]; simp; done)|(rw [Bool.eq_iff_iff]; simp; omega)|(simp [ah] at *; omega)|(simp_all; done)|(simp_all [ah]<;>omega)|skip)
    refine ab fun K hK=>aa ae ?_
    simp only [an,gp,ak,simprocAttr,reduceCtorEq,reduceIte,hg,e1,e2]
    refine af ?_ (hK _ ?_)<;>clear hK K
    ·omega
    refine ⟨rfl,[0],?_⟩; simp only [AV.p.injEq,AV.sl.injEq,AV.ptr.injEq,aH.own.injEq,PV.int.injEq,PV.bool.injEq,PV.list.injEq,Nat.sub_zero,Int.natCast_add,List.length_append,aX,bM,bN,Le,dQ,jr,dJ,aY,bg,bj,bn,List.nodup_cons,List.nodup_nil,List.mem_cons,List.not_mem_nil,or_false,not_false_eq_true,an,gp,ak,simprocAttr,reduceCtorEq,reduceIte]; (first|exact trivial|omega|(simp only [ah] at *; omega)|(rw [Bool.eq_iff_iff]; simp; done)|(rw [Bool.eq_iff_iff]; simp; omega)|(simp [ah] at *; omega)|(simp_all; done)|(simp_all [ah]<;>omega)|skip)
   refine ab fun K hK=>aa ae ?_
   simp only [an,gp,ak,simprocAttr,reduceCtorEq,reduceIte,hg,e1]
   refine af ?_ (hK _ ?_)<;>clear hK K
   ·omega
   refine ⟨rfl,[0],?_⟩; simp only [AV.p.injEq,AV.sl.injEq,AV.ptr.injEq,aH.own.injEq,PV.int.injEq,PV.bool.injEq,PV.list.injEq,Nat.sub_zero,Int.natCast_add,List.length_append,aX,bM,bN,Le,dQ,jr,dJ,aY,bg,bj,bn,List.nodup_cons,List.nodup_nil,List.mem_cons,List.not_mem_nil,or_false,not_false_eq_true,an,gp,ak,simprocAttr,reduceCtorEq,reduceIte]; (first|exact trivial|omega|(simp only [ah] at *; omega)|(rw [Bool.eq_iff_iff]; simp; done)|(rw [Bool.eq_iff_iff]; simp; omega)|(simp [ah] at *; omega)|(simp_all; done)|(simp_all [ah]<;>omega)|skip)
  refine aq rfl (fun hc=>?_) (fun hc=>?_)
  ·repeat (first|refine qa ?_|refine qb ?_|refine qc ?_|refine qd ?_|refine qe ?_|refine qf ?_|refine qg rfl ?_|refine qh ?_|refine qi ?_|refine qj ?_|refine qk ?_|refine ql ?_|refine qm ?_)
   refine ab fun K hK=>aa ae ?_
   simp only [an,gp,ak,simprocAttr,reduceCtorEq,reduceIte]
   refine ao trivial (au (pN 3 i) rfl rfl rfl (by simp only [ay,Nat.reduceLT]) (by repeat (first|exact trivial|constructor)) (aa ae ?_))
   simp only [an,gp,ak,simprocAttr,reduceCtorEq,reduceIte]
   refine af trivial (hK _ ?_)<;>clear hK K
   repeat (first|refine qa ?_|refine qb ?_|refine qc ?_|refine qd ?_|refine qe ?_|refine qf ?_|refine qg rfl ?_|refine qh ?_|refine qi ?_|refine qj ?_|refine qk ?_|refine ql ?_|refine qm ?_)
   simp only [Tryd.results42,eT,jt,dk,kR,bY,eW,bH,cg,aU,PV.norm,PV.eS,PV.dU,PV.list.injEq,PV.tup.injEq,PV.agg.injEq,PV.int.injEq,PV.bool.injEq,List.cons.injEq,an,gp,ak,simprocAttr,reduceCtorEq,reduceIte]
   rw [check,if_neg (by omega),last (of_decide_eq_true hc)]; rfl
  repeat (first|refine qa ?_|refine qb ?_|refine qc ?_|refine qd ?_|refine qe ?_|refine qf ?_|refine qg rfl ?_|refine qh ?_|refine qi ?_|refine qj ?_|refine qk ?_|refine ql ?_|refine qm ?_)
  refine ab fun K hK=>aa ae ?_
  simp only [an,gp,ak,simprocAttr,reduceCtorEq,reduceIte]
  refine af ?_ (hK _ ?_)<;>clear hK K
  ·(first|exact trivial|omega|(simp only [ah] at *; omega)|(rw [Bool.eq_iff_iff]; simp; done)|(rw [Bool.eq_iff_iff]; simp; omega)|(simp [ah] at *; omega)|(simp_all; done)|(simp_all [ah]<;>omega)|skip)
  repeat (first|refine qa ?_|refine qb ?_|refine qc ?_|refine qd ?_|refine qe ?_|refine qf ?_|refine qg rfl ?_|refine qh ?_|refine qi ?_|refine qj ?_|refine qk ?_|refine ql ?_|refine qm ?_)
  refine ⟨i + 1,[0],⟨by omega,next (of_decide_eq_false hc)⟩,by omega,?_⟩
  simp only [AV.p.injEq,AV.sl.injEq,AV.ptr.injEq,aH.own.injEq,PV.int.injEq,PV.bool.injEq,PV.list.injEq,Nat.sub_zero,Int.natCast_add,List.length_append,aX,bM,bN,Le,dQ,jr,dJ,aY,bg,bj,bn,List.nodup_cons,List.nodup_nil,List.mem_cons,List.not_mem_nil,or_false,not_false_eq_true,an,gp,ak,simprocAttr,reduceCtorEq,reduceIte]<;>(first|exact trivial|omega|(simp only [ah] at *; omega)|(rw [Bool.eq_iff_iff]; simp; done)|(rw [Bool.eq_iff_iff]; simp; omega)|(simp [ah] at *; omega)|(simp_all; done)|(simp_all [ah]<;>omega)|skip)
 repeat (first|refine qa ?_|refine qb ?_|refine qc ?_|refine qd ?_|refine qe ?_|refine qf ?_|refine qg rfl ?_|refine qh ?_|refine qi ?_|refine qj ?_|refine qk ?_|refine ql ?_|refine qm ?_)
 (refine ab fun K hK=>aa ae ?_); simp only [an,gp,ak,simprocAttr,reduceCtorEq,reduceIte]; refine af trivial (hK _ ?_)<;>clear hK K; repeat (first|refine qa ?_|refine qb ?_|refine qc ?_|refine qd ?_|refine qe ?_|refine qf ?_|refine qg rfl ?_|refine qh ?_|refine qi ?_|refine qj ?_|refine qk ?_|refine ql ?_|refine qm ?_)
 simp only [Tryd.results42,eT,jt,dk,kR,bY,eW,bH,cg,aU,PV.norm,PV.eS,PV.dU,PV.list.injEq,PV.tup.injEq,PV.agg.injEq,PV.int.injEq,PV.bool.injEq,List.cons.injEq,an,gp,ak,simprocAttr,reduceCtorEq,reduceIte]
 have:i=w.length:=by have:=of_decide_eq_false hlt; omega
 rw [check,if_neg (by omega),← hi.2,this,List.drop_length]; rfl
def rep (n:Nat) (w:List Int):List Int:=(List.replicate n w).flatten
end Go.Proofs.YtpobnnfkeekiaaaDoor.Pr
namespace Go.Pv
open Go.RowKit
abbrev Mp:=Int→Option Int
def zK (k:Nat):List AV:=(List.range k).map fun i=>.mptr (i + 3)
def tv (f:Mp) (z x:Int):Mp:=fun u=>if u=z then some x else f u
end Go.Pv
namespace Go.Proofs.YtpobnnfkeekiaaaDoor.Pr
open Go.Pv
def Fo (U:List Int):Prop:=∀ i,i < U.length→0≤U.getD i 0∧U.getD i 0≤(i:Int)
def pR:Nat→List Int→Nat→Nat × List Int
 | 0,U,v=>(v,U)
 | n + 1,U,v=>if U.getD v 0=(v:Int) then (v,U) else
  pR n (U.set v (U.getD (U.getD v 0).toNat 0)) (U.getD (U.getD v 0).toNat 0).toNat
def dO (U:List Int) (v:Nat):Nat:=(pR (v + 1) U v).1
def aT (U:List Int) (v:Nat):List Int:=(pR (v + 1) U v).2
theorem Fo.half {U:List Int} (h:Fo U) {v:Nat} (hv:v < U.length):Fo (U.set v (U.getD (U.getD v 0).toNat 0))∧(U.getD (U.getD v 0).toNat 0).toNat≤(U.getD v 0).toNat∧(U.getD v 0).toNat≤v∧0≤U.getD (U.getD v 0).toNat 0:=by
 obtain ⟨h1,h2⟩:=h v hv
 obtain ⟨h3,h4⟩:=h (U.getD v 0).toNat (by omega)
 refine ⟨fun i hi=>?_,by omega,by omega,h3⟩
 rw [List.length_set] at hi
 rw [List.getD_eq_getElem?_getD,List.getElem?_set]
 split
 ·rename_i e
  simp only [Option.getD_some]; omega
 rw [← List.getD_eq_getElem?_getD]; exact h i hi
theorem uH:∀ (n m:Nat) (U:List Int) (v:Nat),Fo U→v < U.length→v < n→v < m→pR n U v=pR m U v
 | 0,_,_,_,_,_,h,_=>absurd h (Nat.not_lt_zero _)
 | _,0,_,_,_,_,_,h=>absurd h (Nat.not_lt_zero _)
 | n + 1,m + 1,U,v,hU,hv,h1,h2=>by
  rw [pR,pR]
  split
  ·rfl
  rename_i hne
  obtain ⟨g1,g2,g3,g4⟩:=hU.half hv
  have hb:=hU v hv
  exact uH n m _ _ g1 (by rw [List.length_set]; omega) (by omega) (by omega)
theorem xt:∀ (n:Nat) (U:List Int) (v:Nat),(pR n U v).2.length=U.length
 | 0,_,_=>rfl
 | n + 1,U,v=>by
  rw [pR]
  split
  ·rfl
  rw [xt n]; simp
theorem xN (U:List Int) (v:Nat):(aT U v).length=U.length:=xt _ _ _
section
variable {G:List Mp} {U:List Int}
end
end Go.Proofs.YtpobnnfkeekiaaaDoor.Pr
namespace Go.Pv
open Go.RowKit
section
variable {P:Program} {T:TypeId→Option TI} {s:St}
theorem r7 (hT:∀ t ti,T t=some ti→bk P t=some ti) {o:Oper} {t:TypeId} {x:Operand} (ho:o.op = .buildSlice t 1 #[(0,x)]) {ti te:TI} (ht:T t=some ti) {e:TypeId} (hk:ti.kind = .slice e) (hte:T e=some te) (hsz:te.size=1)
  {av:AV} (hx:s.ev x=av) (hc1:av.cells=[av]) (hok:bm av=true):bu P o s (.sl s.H.length 0 1) (s.H++[.own [av]]):=by
 intro C m a w K Q R hK
 have hu:=bK (hT _ _ ht) hk
 obtain ⟨i,d,z,h1,h2,h3,h4,h5,h6,h7,h8⟩:=aZ (hT _ _ hte)
 have hss:=dy (hT _ _ hte) w
 rw [hsz] at hss
 obtain ⟨cs',k2,k3,k5⟩:=kO R (fun i=>some (i * 1,1)) [(0,x)] (c:=[.dead]) (c':=[av]) (cs:=(Array.range (1 * 1)).map (z.cells[· % z.cells.size]!)) (p:=(([av].length=1∧0 * 1 + 1≤[AV.dead].length∧[av].all bm=true)∧True)) (by simp) (fun j hj=>by
   simp only [List.length_cons,List.length_nil] at hj
   obtain rfl:j=0:=by omega
   exact .dead _) (by
  simp only [List.map_cons,List.map_nil,mL,hx,hc1,kh]
  rfl) ⟨⟨rfl,Nat.le_refl _,by simp [hok]⟩,trivial⟩
 have hrun:(execOp a.eval o).run P w = .ok (.value (.slice (some ⟨w.heap.size,0,none⟩) 1 1)) (w.alloc (.cells cs' e)):=by
  have hpt:(#[(0,x)].map fun q:Nat × Operand=>(q.1,a.eval q.2)).toList=[(0,x)].map fun q=>(q.1,a.eval q.2):=by simp
  have hne:¬ (1 * 1 > 2 ^ 24):=by decide
  simp only [execOp,ho,Instr.buildSlice,Sem.run_bind,run_underlying hu,Result.andThen_ok,hss,Sem.run_ite,hne,if_false,show ¬ (1 * 1=0) by decide,zeroValue,typeInfo,run_program,h1,h3,Sem.run_pure,newRow] at k2 ⊢
  simp only [hpt,k2,Sem.run_bind,run_newObj,Result.andThen_ok,Sem.run_pure]
  rfl
 have hrel:=R.kb (cm _) (cur:=cs') (e:=e) (heap_alloc_new w _) (lg (by rw [k3]; simp [maxLen])) (c:=[av]) (by rw [k3]; exact Nat.le_refl _) k5
 refine aW (by first|rfl|(rw [ho]; rfl)) ?_
 unfold Oper.wp
 rw [hrun]
 exact hK _ _ _ hrel (.sl _ _ _ _ (by simp) <| .inr ⟨⟨w.heap.size,0,cs'.size⟩,1,by simp [bR],by simp,Nat.le_refl _,by simp only; rw [k3]; exact Nat.le_refl _⟩)
end
end Go.Pv
namespace Go.Proofs.YtpobnnfkeekiaaaDoor.Pr
open Go.Pv
theorem ph {π:List Nat} {H:az} : ∀ {ks:List Nat} {H1:az},ks.length=H1.length→(∀ i,i < H1.length→dJ π H (ks.getD i 0) (aA H1 i))→dQ π H ks H1
 | [],[],_,_=>trivial
 | [],_ :: _,h,_=>by simp at h
 | _ :: _,[],h,_=>by simp at h
 | k :: ks,b :: r,h,hb=>⟨by simpa [aA] using hb 0 (by simp),ph (by simpa using h) fun i hi=>by simpa [aA] using hb (i + 1) (by simpa using hi)⟩
theorem jd {π:List Nat} {H:az} : ∀ {k1 k2:List Nat} {H1 H2:az},dQ π H k1 H1→dQ π H k2 H2→dQ π H (k1++k2) (H1++H2)
 | [],_,[],_,_,h=>h
 | [],_,_ :: _,_,h,_=>h.elim
 | _ :: _,_,[],_,h,_=>h.elim
 | _ :: _,_,_ :: _,_,h,h2=>⟨h.1,jd h.2 h2⟩
theorem oI {π:List Nat} {H B:az} {a:Nat} (h:∀ i,i < B.length→aA H (a + i)=aA B i) (hr:∀ b∈B,dJ π [b] 0 b):dQ π H (List.range' a B.length) B:=by
 refine ph (by simp) fun i hi=>?_
 have e:(List.range' a B.length).getD i 0=a + i:=by simp [List.getD,List.getElem?_range' hi]
 have hm:=hr (aA B i) (by rw [cA,List.getD_eq_getElem?_getD,List.getElem?_eq_getElem hi]; exact List.getElem_mem hi)
 rw [e]
 have h2:aA H (a + i)=aA [aA B i] 0:=h i hi
 revert hm
 generalize aA B i=b at h2 ⊢
 intro hm
 cases b<;>simp only [dJ,h2] at hm ⊢<;>exact hm
theorem ik {π:List Nat} {H:az} {k:Nat} {l:List Int} (h:aA H k = .own (ol l)):dJ π H k (.own (ol l)):=by
 simp only [dJ,h]
 exact ⟨by rw [List.take_of_length_le (Nat.le_refl _)]; simp [ol,Go.Pv.aY,Go.Pv.bg],fG _ _⟩
section
variable {G:List Mp} {U:List Int}
end
open Go.Pv
def ER:Nat→List Int→Nat→Nat
 | 0,_,v=>v
 | n + 1,U,v=>if U.getD v 0=(v:Int) then v else ER n U (U.getD v 0).toNat
def rV (U:List Int) (v:Nat):Nat:=ER (v + 1) U v
theorem Fo.dn {U:List Int} (h:Fo U) {v:Nat} (hv:v < U.length) (hn:¬ U.getD v 0=(v:Int)):(U.getD v 0).toNat < v:=by
 have:=h v hv
 omega
theorem vA:∀ (n m:Nat) (U:List Int) (v:Nat),Fo U→v < U.length→v < n→v < m→ER n U v=ER m U v
 | 0,_,_,_,_,_,h,_=>absurd h (Nat.not_lt_zero _)
 | _,0,_,_,_,_,_,h=>absurd h (Nat.not_lt_zero _)
 | n + 1,m + 1,U,v,hU,hv,h1,h2=>by
  rw [ER,ER]
  split
  ·rfl
  rename_i hne
  have:=hU.dn hv hne
  exact vA n m U _ hU (by omega) (by omega) (by omega)
theorem cT {U:List Int} {v:Nat} (h:U.getD v 0=(v:Int)):rV U v=v:=by
 rw [rV,ER,if_pos h]
theorem gL {U:List Int} (hU:Fo U) {v:Nat} (hv:v < U.length):rV U (U.getD v 0).toNat=rV U v:=by
 by_cases h:U.getD v 0=(v:Int)
 ·rw [h]; simp
 have hd:=hU.dn hv h
 conv=>rhs; rw [rV,ER,if_neg h]
 exact vA _ _ _ _ hU (by omega) (by omega) (by omega)
theorem dP {U:List Int} (hU:Fo U):∀ (v:Nat),v < U.length→rV U v≤v:=by
 intro v
 induction v using Nat.strongRecOn with
 | ind v ih =>
  intro hv
  by_cases h:U.getD v 0=(v:Int)
  ·rw [cT h]; exact Nat.le_refl _
  have hd:=hU.dn hv h
  rw [← gL hU hv]
  have:=ih _ hd (by omega)
  omega
theorem kz {U:List Int} (hU:Fo U):∀ (v:Nat),v < U.length→U.getD (rV U v) 0=(rV U v:Int):=by
 intro v
 induction v using Nat.strongRecOn with
 | ind v ih =>
  intro hv
  by_cases h:U.getD v 0=(v:Int)
  ·rw [cT h]; exact h
  have hd:=hU.dn hv h
  rw [← gL hU hv]
  exact ih _ hd (by omega)
theorem dt {U:List Int} (hU:Fo U) {v:Nat} (hv:v < U.length):rV U (rV U v)=rV U v:=cT (kz hU v hv)
theorem fA {U:List Int} {y i:Nat} {z:Int} (hy:y < U.length):(U.set y z).getD i 0=if i=y then z else U.getD i 0:=by
 rw [List.getD_eq_getElem?_getD,List.getElem?_set]
 by_cases h:y=i
 ·subst h; simp [hy]
 rw [if_neg h,if_neg (fun e=>h e.symm),List.getD_eq_getElem?_getD]
theorem yJ {U:List Int} (hU:Fo U) {y:Nat} (hy:y < U.length):∀ u,u < U.length→rV (U.set y (U.getD (U.getD y 0).toNat 0)) u=rV U u:=by
 have hF:=(hU.half hy).1
 have hl:(U.set y (U.getD (U.getD y 0).toNat 0)).length=U.length:=List.length_set
 intro u
 induction u using Nat.strongRecOn with
 | ind u ih =>
  intro hu
  by_cases hyu:u=y
  ·subst hyu
   by_cases h:U.getD u 0=(u:Int)
   ·rw [cT h]
    refine cT ?_
    rw [fA hy,if_pos rfl,h]
    simpa using h
   have hd:=hU.dn hy h
   have g1:(U.set u (U.getD (U.getD u 0).toNat 0)).getD u 0=U.getD (U.getD u 0).toNat 0:=by rw [fA hy,if_pos rfl]
   have g2:=hU (U.getD u 0).toNat (by omega)
   rw [← gL hF (by rw [hl]; exact hy),g1,ih _ (by omega) (by omega),gL hU (by omega),gL hU hy]
  have g1:(U.set y (U.getD (U.getD y 0).toNat 0)).getD u 0=U.getD u 0:=by rw [fA hy,if_neg hyu]
  by_cases h:U.getD u 0=(u:Int)
  ·rw [cT h,cT (by rw [g1]; exact h)]
  have hd:=hU.dn hu h
  rw [← gL hF (by rw [hl]; exact hu),g1,ih _ hd (by omega),gL hU hu]
theorem mH:∀ (n:Nat) (U:List Int) (v:Nat),Fo U→v < U.length→v < n→(pR n U v).1=rV U v∧Fo (pR n U v).2∧(pR n U v).2.length=U.length∧∀ u,u < U.length→rV (pR n U v).2 u=rV U u
 | 0,_,_,_,_,h=>absurd h (Nat.not_lt_zero _)
 | n + 1,U,v,hU,hv,hn=>by
  rw [pR]
  split
  ·rename_i h
   exact ⟨(cT h).symm,hU,rfl,fun _ _=>rfl⟩
  rename_i h
  have hd:=hU.dn hv h
  obtain ⟨g1,g2,g3,g4⟩:=hU.half hv
  have hl:(U.set v (U.getD (U.getD v 0).toNat 0)).length=U.length:=List.length_set
  obtain ⟨i1,i2,i3,i4⟩:=mH n (U.set v (U.getD (U.getD v 0).toNat 0)) (U.getD (U.getD v 0).toNat 0).toNat g1 (by omega) (by omega)
  refine ⟨?_,i2,by omega,fun u hu=>?_⟩
  ·rw [i1,yJ hU hv _ (by omega),gL hU (by omega),gL hU hv]
  rw [i4 u (by omega),yJ hU hv u hu]
theorem bS {U:List Int} (hU:Fo U) {v:Nat} (hv:v < U.length):dO U v=rV U v:=(mH _ _ _ hU hv (Nat.lt_succ_self _)).1
theorem GI {U:List Int} (hU:Fo U) {v:Nat} (hv:v < U.length):Fo (aT U v):=(mH _ _ _ hU hv (Nat.lt_succ_self _)).2.1
theorem lK {U:List Int} (hU:Fo U) {v:Nat} (hv:v < U.length) {u:Nat} (hu:u < U.length):rV (aT U v) u=rV U u:=(mH _ _ _ hU hv (Nat.lt_succ_self _)).2.2.2 u hu
theorem Fo.join {U:List Int} (hU:Fo U) {aI gone:Nat} (hg:gone < U.length) (hk:aI < gone):Fo (U.set gone aI):=fun i hi=>by
 rw [List.length_set] at hi
 rw [fA hg]
 split
 ·omega
 exact hU i hi
theorem yx {U:List Int} (hU:Fo U) {aI gone:Nat} (hg:gone < U.length) (hk:aI < gone) (h1:U.getD aI 0=(aI:Int)) (h2:U.getD gone 0=(gone:Int)):∀ u,u < U.length→rV (U.set gone (aI:Int)) u=if rV U u=gone then aI else rV U u:=by
 have hF:=hU.join hg hk
 have hl:(U.set gone (aI:Int)).length=U.length:=List.length_set
 have hk2:rV (U.set gone (aI:Int)) aI=aI:=cT (by rw [fA hg,if_neg (by omega)]; exact h1)
 intro u
 induction u using Nat.strongRecOn with
 | ind u ih =>
  intro hu
  by_cases hug:u=gone
  ·subst hug
   rw [cT h2,if_pos rfl,← gL hF (by omega),fA hg,if_pos rfl,Int.toNat_natCast,hk2]
  by_cases h:U.getD u 0=(u:Int)
  ·rw [cT h,if_neg hug]
   exact cT (by rw [fA hg,if_neg hug]; exact h)
  have hd:=hU.dn hu h
  rw [← gL hF (by omega),fA hg,if_neg hug,ih _ hd (by omega),gL hU hu]
theorem Fo.snoc {U:List Int} (hU:Fo U):Fo (U++[(U.length:Int)]):=fun i hi=>by
 rw [List.length_append,List.length_singleton] at hi
 rw [List.getD_eq_getElem?_getD]
 by_cases h:i < U.length
 ·rw [List.getElem?_append_left h,← List.getD_eq_getElem?_getD]; exact hU i h
 have:i=U.length:=by omega
 subst this
 simp
theorem rF {U:List Int} {z:Int} {i:Nat} (h:i < U.length):(U++[z]).getD i 0=U.getD i 0:=by
 rw [List.getD_eq_getElem?_getD,List.getElem?_append_left h,← List.getD_eq_getElem?_getD]
theorem Dq {U:List Int} (hU:Fo U):∀ u,u < U.length→rV (U++[(U.length:Int)]) u=rV U u:=by
 intro u
 induction u using Nat.strongRecOn with
 | ind u ih =>
  intro hu
  by_cases h:U.getD u 0=(u:Int)
  ·rw [cT h,cT (by rw [rF hu]; exact h)]
  have hd:=hU.dn hu h
  rw [← gL hU.snoc (by simp; omega),rF hu,ih _ hd (by omega),gL hU hu]
theorem FV (U:List Int):rV (U++[(U.length:Int)]) U.length=U.length:=cT (by simp)
abbrev E3:=Nat × Int × Nat
def gm (G:List Mp) (i:Nat):Mp:=G.getD i fun _=>none
structure WG (G:List Mp) (U:List Int):Prop where
 len:U.length=G.length
 fo:Fo U
 tp:∀ v x d,v < G.length→gm G v x=some d→0≤d∧d.toNat < G.length∧x ≠ 0∧-26≤x∧x≤26
def Ed (G:List Mp) (U:List Int) (u:Nat) (x:Int) (v:Nat):Prop:=∃ d,gm G (rV U u) x=some d∧rV U d.toNat=rV U v
def I4 (k:Nat) (W:List E3):Prop:=∀ t∈W,t.1 < k∧t.2.2 < k∧t.2.1 ≠ 0∧-26≤t.2.1∧t.2.1≤26
def Pe (G:List Mp) (U:List Int) (W:List E3) (u:Nat) (x:Int) (v:Nat):Prop:=Ed G U u x v∨∃ t∈W,rV U t.1=rV U u∧t.2.1=x∧rV U t.2.2=rV U v
def kc (G:List Mp) (U:List Int) (W:List E3):Prop:=∀ u x v,u < G.length→v < G.length→Pe G U W u x v→Pe G U W v (-x) u
def Ea {X:Type} (step:X→Int→Option X) (κ:Nat→X) (G:List Mp) (U:List Int) (W:List E3):Prop:=
 (∀ u,u < G.length→κ (rV U u)=κ u)∧∀ u x v,u < G.length→v < G.length→Pe G U W u x v→step (κ u) x=some (κ v)
structure sO (G:List Mp) (U:List Int) (W:List E3) (G' : List Mp) (U' : List Int) (W' : List E3):Prop where
 len:G'.length=G.length
 same:∀ u v,u < G.length→v < G.length→rV U u=rV U v→rV U' u=rV U' v
 aI:∀ u x v,u < G.length→v < G.length→Pe G U W u x v→Pe G' U' W' u x v
 sym:kc G' U' W'
 cmp:∀ (X:Type) (step:X→Int→Option X) (κ:Nat→X),Ea step κ G U W→Ea step κ G' U' W'
theorem sO.refl {G:List Mp} {U:List Int} {W:List E3} (h:kc G U W):sO G U W G U W:=⟨rfl,fun _ _ _ _ h=>h,fun _ _ _ _ _ h=>h,h,fun _ _ _ h=>h⟩
theorem sO.trans {G G' G2 : List Mp} {U U' U2 : List Int} {W W' W2 : List E3} (h : sO G U W G' U' W') (h2 : sO G' U' W' G2 U2 W2) : sO G U W G2 U2 W2 :=
  ⟨h2.len.trans h.len, fun u v hu hv e => h2.same u v (by rw [h.len]; exact hu) (by rw [h.len]; exact hv) (h.same u v hu hv e),
   fun u x v hu hv e => h2.aI u x v (by rw [h.len]; exact hu) (by rw [h.len]; exact hv) (h.aI u x v hu hv e), h2.sym, fun X s k c => h2.cmp X s k (h.cmp X s k c)⟩
theorem WG.mw {G:List Mp} {U:List Int} (w:WG G U) {u:Nat} (h:u < G.length):rV U u < G.length:=
 Nat.lt_of_le_of_lt (dP w.fo u (by rw [w.len]; exact h)) h
theorem WG.idem {G:List Mp} {U:List Int} (w:WG G U) {u:Nat} (h:u < G.length):rV U (rV U u)=rV U u:=dt w.fo (by rw [w.len]; exact h)
theorem Pe.mv {G:List Mp} {U:List Int} {W:List E3} {u v u2 v2:Nat} {x:Int} (h:Pe G U W u x v) (h1:rV U u=rV U u2) (h2:rV U v=rV U v2):Pe G U W u2 x v2:=by
 rcases h with ⟨d,a,b⟩ | ⟨t,a,b,c,e⟩
 ·exact .inl ⟨d,by rw [← h1]; exact a,b.trans h2⟩
 exact .inr ⟨t,a,b.trans h1,c,e.trans h2⟩
theorem sT {G G' : List Mp} {U U' : List Int} {W W' : List E3} (hl : G'.length = G.length) (hs : kc G U W) (hr : ∀ u, u < G.length → rV U' u = rV U u) (h : ∀ u x v, u < G.length → v < G.length → (Pe G' U' W' u x v ↔ Pe G U W u x v)) : sO G U W G' U' W' :=
  ⟨hl, fun u v hu hv e => by rw [hr u hu, hr v hv]; exact e, fun u x v hu hv e => (h u x v hu hv).2 e,
   fun u x v hu hv e => by rw [hl] at hu hv; exact (h _ _ _ hv hu).2 (hs u x v hu hv ((h u x v hu hv).1 e)),
   fun X s k c => ⟨fun u hu => by rw [hl] at hu; rw [hr u hu]; exact c.1 u hu, fun u x v hu hv e => by rw [hl] at hu hv; exact c.2 u x v hu hv ((h u x v hu hv).1 e)⟩⟩
theorem Ed.rv {G:List Mp} {U U' : List Int} (w:WG G U) (hr:∀ u,u < G.length→rV U' u=rV U u) {u v:Nat} {x:Int} (hu:u < G.length) (hv:v < G.length):Ed G U' u x v↔Ed G U u x v:=by
 unfold Ed
 rw [hr u hu,hr v hv]
 constructor
 ·rintro ⟨d,a,b⟩
  exact ⟨d,a,by rw [← hr _ (w.tp _ _ _ (w.mw hu) a).2.1]; exact b⟩
 rintro ⟨d,a,b⟩
 exact ⟨d,a,by rw [hr _ (w.tp _ _ _ (w.mw hu) a).2.1]; exact b⟩
theorem ta {G:List Mp} {U U' : List Int} {W:List E3} (w:WG G U) (hW:I4 G.length W) (hs:kc G U W) (hr:∀ u,u < G.length→rV U' u=rV U u):sO G U W G U' W:=
 sT rfl hs hr fun u x v hu hv=>by
  unfold Pe
  rw [Ed.rv w hr hu hv]
  refine or_congr Iff.rfl ⟨?_,?_⟩
  ·rintro ⟨t,a,b,c,d⟩
   exact ⟨t,a,by rw [← hr _ (hW t a).1,← hr u hu]; exact b,c,by rw [← hr _ (hW t a).2.1,← hr v hv]; exact d⟩
  rintro ⟨t,a,b,c,d⟩
  exact ⟨t,a,by rw [hr _ (hW t a).1,hr u hu]; exact b,c,by rw [hr _ (hW t a).2.1,hr v hv]; exact d⟩
theorem wD {G:List Mp} {i j:Nat} {f:Mp} (h:i < G.length):gm (G.set i f) j=if j=i then f else gm G j:=by
 unfold gm
 rw [List.getD_eq_getElem?_getD,List.getElem?_set]
 by_cases e:i=j
 ·subst e; simp [h]
 rw [if_neg e,if_neg (fun x=>e x.symm),List.getD_eq_getElem?_getD]
theorem Eg {G:List Mp} {U:List Int} {W:List E3} {a b:Nat} {x:Int} (w:WG G U) (hs:kc G U (W++[(a,x,b)])) (ha:a < G.length) (hb:b < G.length) (hn:gm G (rV U a) x=none) :
  sO G U (W++[(a,x,b)]) (G.set (rV U a) (tv (gm G (rV U a)) x (rV U b:Nat))) U W:=
 sT (by simp) hs (fun _ _=>rfl) fun u y v hu hv=>by
  have hra:=w.mw ha
  constructor
  ·rintro (⟨d,h1,h2⟩ | ⟨t,h1,h2⟩)
   ·rw [wD hra] at h1
    split at h1
    ·rename_i e
     unfold tv at h1
     split at h1
     ·rename_i e2
      subst e2
      obtain rfl:=Option.some.inj h1
      rw [Int.toNat_natCast,w.idem hb] at h2
      exact .inr ⟨(a,y,b),by simp,e.symm,rfl,h2⟩
     exact .inl ⟨d,by rw [e]; exact h1,h2⟩
    exact .inl ⟨d,h1,h2⟩
   exact .inr ⟨t,by simp [h1],h2⟩
  rintro (⟨d,h1,h2⟩ | ⟨t,h1,h2,h3,h4⟩)
  ·refine .inl ⟨d,?_,h2⟩
   rw [wD hra]
   split
   ·rename_i e
    unfold tv
    split
    ·rename_i e2
     subst e2
     rw [e,hn] at h1; cases h1
    rw [← e]; exact h1
   exact h1
  rcases List.mem_append.1 h1 with h1 | h1
  ·exact .inr ⟨t,h1,h2,h3,h4⟩
  rw [List.mem_singleton] at h1
  subst h1
  refine .inl ⟨(rV U b:Nat),?_,?_⟩
  ·rw [wD hra,if_pos h2.symm]
   unfold tv
   rw [if_pos h3.symm]
  rw [Int.toNat_natCast,w.idem hb]; exact h4
theorem CH {G:List Mp} {U:List Int} {W:List E3} {a b:Nat} {x c:Int} (hs:kc G U (W++[(a,x,b)])) (hc:gm G (rV U a) x=some c) (he:rV U c.toNat=rV U b):sO G U (W++[(a,x,b)]) G U W:=
 sT rfl hs (fun _ _=>rfl) fun u y v hu hv=>by
  constructor
  ·rintro (h | ⟨t,h1,h2⟩)
   ·exact .inl h
   exact .inr ⟨t,by simp [h1],h2⟩
  rintro (h | ⟨t,h1,h2,h3,h4⟩)
  ·exact .inl h
  rcases List.mem_append.1 h1 with h1 | h1
  ·exact .inr ⟨t,h1,h2,h3,h4⟩
  rw [List.mem_singleton] at h1
  subst h1
  refine .inl ⟨c,?_,he.trans h4⟩
  simp only at h2 h3
  rw [← h2,← h3]; exact hc
def jV (f:Mp) (aI:Nat) (L:List Int):List E3:=L.flatMap fun y=>[(aI,y,((f y).getD 0).toNat),(((f y).getD 0).toNat,-y,aI)]
theorem BW {G:List Mp} {U:List Int} {W:List E3} {a b:Nat} {x c:Int} (w:WG G U) (hW:I4 G.length (W++[(a,x,b)])) (hs:kc G U (W++[(a,x,b)])) (hc:gm G (rV U a) x=some c) {aI gone:Nat}
  (hk:aI < gone) (hkg:(aI=rV U b∧gone=rV U c.toNat)∨(aI=rV U c.toNat∧gone=rV U b)) {L:List Int} (hL:∀ y,(gm G gone y).isSome=true↔y∈L) :
  sO G U (W++[(a,x,b)]) G (U.set gone aI) (W++jV (gm G gone) aI L):=by
 obtain ⟨ha,hb,hx0⟩:=hW (a,x,b) (by simp)
 simp only at ha hb hx0
 obtain ⟨_,hcl,_⟩:=w.tp _ _ _ (w.mw ha) hc
 have hkl:aI < G.length:=hkg.elim (fun ⟨h,_⟩=>by rw [h]; exact w.mw hb) (fun ⟨h,_⟩=>by rw [h]; exact w.mw hcl)
 have hgl:gone < G.length:=hkg.elim (fun ⟨_,h⟩=>by rw [h]; exact w.mw hcl) (fun ⟨_,h⟩=>by rw [h]; exact w.mw hb)
 have hkr:rV U aI=aI:=hkg.elim (fun ⟨h,_⟩=>by rw [h]; exact w.idem hb) (fun ⟨h,_⟩=>by rw [h]; exact w.idem hcl)
 have hgr:rV U gone=gone:=hkg.elim (fun ⟨_,h⟩=>by rw [h]; exact w.idem hcl) (fun ⟨_,h⟩=>by rw [h]; exact w.idem hb)
 have k1:U.getD aI 0=(aI:Int):=by have:=kz w.fo aI (by rw [w.len]; exact hkl); rwa [hkr] at this
 have k2:U.getD gone 0=(gone:Int):=by have:=kz w.fo gone (by rw [w.len]; exact hgl); rwa [hgr] at this
 have hr:∀ u,u < G.length→rV (U.set gone (aI:Int)) u=if rV U u=gone then aI else rV U u:=fun u hu=>yx w.fo (by rw [w.len]; exact hgl) hk k1 k2 u (by rw [w.len]; exact hu)
 have hcb:rV (U.set gone (aI:Int)) c.toNat=rV (U.set gone (aI:Int)) b:=by
  rw [hr _ hcl,hr _ hb]
  rcases hkg with ⟨h1,h2⟩ | ⟨h1,h2⟩
  ·rw [if_pos h2.symm,if_neg (by omega)]; exact h1
  rw [if_pos h2.symm,if_neg (by omega)]; exact h1.symm
 have same:∀ u v,u < G.length→v < G.length→rV U u=rV U v→rV (U.set gone (aI:Int)) u=rV (U.set gone (aI:Int)) v:=fun u v hu hv e=>by rw [hr u hu,hr v hv,e]
 have hkk:rV (U.set gone (aI:Int)) aI=aI:=by rw [hr _ hkl,if_neg (by omega)]; exact hkr
 have hgk:rV (U.set gone (aI:Int)) gone=aI:=by rw [hr _ hgl,if_pos hgr]
 have mg:∀ {y d},gm G gone y=some d→(aI,y,d.toNat)∈jV (gm G gone) aI L∧(d.toNat,-y,aI)∈jV (gm G gone) aI L:=fun {y d} h=>by
  unfold jV
  constructor<;>exact List.mem_flatMap.2 ⟨y,(hL y).1 (by rw [h]; rfl),by simp [h]⟩
 have gmem:∀ t∈jV (gm G gone) aI L,∃ y d,gm G gone y=some d∧(t=(aI,y,d.toNat)∨t=(d.toNat,-y,aI)):=fun t ht=>by
  obtain ⟨y,hy,h⟩:=List.mem_flatMap.1 ht
  have:=(hL y).2 hy
  obtain ⟨d,hd⟩:=Option.isSome_iff_exists.1 this
  rw [hd] at h
  simp only [Option.getD_some,List.mem_cons,List.not_mem_nil,or_false] at h
  exact ⟨y,d,hd,h⟩
 have ed:∀ u y d v,u < G.length→v < G.length→gm G (rV U u) y=some d→rV (U.set gone (aI:Int)) d.toNat=rV (U.set gone (aI:Int)) v→Pe G (U.set gone (aI:Int)) (W++jV (gm G gone) aI L) u y v:=fun u y d v hu hv h1 h2=>by
  by_cases e:rV U u=gone
  ·rw [e] at h1
   exact .inr ⟨_,List.mem_append_right _ (mg h1).1,by simp only; rw [hkk,hr u hu,if_pos e],rfl,h2⟩
  exact .inl ⟨d,by rw [hr u hu,if_neg e]; exact h1,h2⟩
 have keepP:∀ u y v,u < G.length→v < G.length→Pe G U (W++[(a,x,b)]) u y v→Pe G (U.set gone (aI:Int)) (W++jV (gm G gone) aI L) u y v:=by
  intro u y v hu hv h
  rcases h with ⟨d,h1,h2⟩ | ⟨t,h1,h2,h3,h4⟩
  ·exact ed u y d v hu hv h1 (same _ _ (w.tp _ _ _ (w.mw hu) h1).2.1 hv h2)
  rcases List.mem_append.1 h1 with h1 | h1
  ·obtain ⟨t1,t2,_⟩:=hW t (by simp [h1])
   exact .inr ⟨t,List.mem_append_left _ h1,same _ _ t1 hu h2,h3,same _ _ t2 hv h4⟩
  rw [List.mem_singleton] at h1
  subst h1
  simp only at h2 h3 h4
  subst h3
  exact ed u x c v hu hv (by rw [← h2]; exact hc) (hcb.trans (same _ _ hb hv h4))
 have back:∀ u y v,u < G.length→v < G.length→Pe G (U.set gone (aI:Int)) (W++jV (gm G gone) aI L) u y v →
   (∃ u0 v0,u0 < G.length∧v0 < G.length∧rV (U.set gone (aI:Int)) u0=rV (U.set gone (aI:Int)) u∧rV (U.set gone (aI:Int)) v0=rV (U.set gone (aI:Int)) v∧Pe G U (W++[(a,x,b)]) u0 y v0):=by
  intro u y v hu hv h
  rcases h with ⟨d,h1,h2⟩ | ⟨t,h1,h2,h3,h4⟩
  ·have hrl:rV (U.set gone (aI:Int)) u < G.length:=by rw [hr u hu]; split<;>first|exact hkl|exact w.mw hu
   have hrr:rV U (rV (U.set gone (aI:Int)) u)=rV (U.set gone (aI:Int)) u:=by rw [hr u hu]; split<;>first|exact hkr|exact w.idem hu
   have hne:rV (U.set gone (aI:Int)) u ≠ gone:=by rw [hr u hu]; split<;>omega
   have hd:=(w.tp _ _ _ hrl h1).2.1
   exact ⟨rV (U.set gone (aI:Int)) u,d.toNat,hrl,hd,by rw [hr _ hrl,hrr,if_neg hne],h2,.inl ⟨d,by rw [hrr]; exact h1,rfl⟩⟩
  rcases List.mem_append.1 h1 with h1 | h1
  ·obtain ⟨t1,t2,_⟩:=hW t (by simp [h1])
   exact ⟨t.1,t.2.2,t1,t2,h2,h4,.inr ⟨t,by simp [h1],rfl,h3,rfl⟩⟩
  obtain ⟨z,d,hd,rfl | rfl⟩:=gmem t h1
  ·simp only at h2 h3 h4
   subst h3
   have hdl:=(w.tp _ _ _ hgl hd).2.1
   exact ⟨gone,d.toNat,hgl,hdl,by rw [hgk,← h2,hkk],h4,.inl ⟨d,by rw [hgr]; exact hd,rfl⟩⟩
  simp only at h2 h3 h4
  subst h3
  have hdl:=(w.tp _ _ _ hgl hd).2.1
  exact ⟨d.toNat,gone,hdl,hgl,h2,by rw [hgk,← h4,hkk],hs _ _ _ hgl hdl (.inl ⟨d,by rw [hgr]; exact hd,rfl⟩)⟩
 refine ⟨rfl,same,keepP,fun u y v hu hv h=>?_,fun X st κ hC=>?_⟩
 ·obtain ⟨u0,v0,a1,a2,a3,a4,a5⟩:=back u y v hu hv h
  exact (keepP _ _ _ a2 a1 (hs _ _ _ a1 a2 a5)).mv a4 a3
 have e1:st (κ a) x=some (κ b):=hC.2 a x b ha hb (.inr ⟨(a,x,b),by simp,rfl,rfl,rfl⟩)
 have e2:st (κ a) x=some (κ c.toNat):=hC.2 a x c.toNat ha hcl (.inl ⟨c,hc,rfl⟩)
 have e4:κ b=κ c.toNat:=Option.some.inj (e1.symm.trans e2)
 have e3:κ aI=κ gone:=by
  rcases hkg with ⟨h1,h2⟩ | ⟨h1,h2⟩
  ·rw [h1,h2,hC.1 b hb,hC.1 _ hcl,e4]
  rw [h1,h2,hC.1 b hb,hC.1 _ hcl,e4]
 have c1:∀ u,u < G.length→κ (rV (U.set gone (aI:Int)) u)=κ u:=fun u hu=>by
  rw [hr u hu]
  split
  ·rename_i e; rw [e3,← e]; exact hC.1 u hu
  exact hC.1 u hu
 refine ⟨c1,fun u y v hu hv h=>?_⟩
 obtain ⟨u0,v0,a1,a2,a3,a4,a5⟩:=back u y v hu hv h
 have f1:κ u0=κ u:=by rw [← c1 u0 a1,a3,c1 u hu]
 have f2:κ v0=κ v:=by rw [← c1 v0 a2,a4,c1 v hv]
 rw [← f1,← f2]
 exact hC.2 _ _ _ a1 a2 a5
def nr (U:List Int) (k:Nat):Nat:=(List.range k).countP fun v=>rV U v == v
theorem EJ (U:List Int) (k:Nat):nr U k≤k:=by
 have:=List.countP_le_length (p:=fun v=>rV U v == v) (l:=List.range k)
 simpa [nr] using this
theorem sb {U U' : List Int} {k:Nat} (h:∀ u,u < k→rV U' u=rV U u):nr U' k=nr U k:=by
 unfold nr
 refine List.countP_congr fun x hx=>?_
 rw [h x (List.mem_range.1 hx)]
theorem rP {p q:Nat→Bool} : ∀ (l:List Nat) (y:Nat),y∈l→p y=true→q y=false→(∀ x∈l,q x=true→p x=true)→l.countP q < l.countP p
 | [],y,h,_,_,_=>by simp at h
 | x :: r,y,h,hp,hq,hi=>by
  have hle:∀ (l:List Nat),(∀ x∈l,q x=true→p x=true)→l.countP q≤l.countP p:=fun l h=>List.countP_mono_left h
  rw [List.countP_cons,List.countP_cons]
  rcases List.mem_cons.1 h with rfl | h
  ·have:=hle r fun x hx=>hi x (by simp [hx])
   simp [hp,hq]; omega
  have:=rP r y h hp hq fun x hx=>hi x (by simp [hx])
  have h2:=hi x (by simp)
  by_cases e:q x=true
  ·simp [e,h2 e]; exact this
  simp [e]; split<;>omega
theorem CN {U U' : List Int} {k aI gone:Nat} (hk:aI < gone) (hg:gone < k) (hgr:rV U gone=gone) (hkr:rV U aI=aI) (hr:∀ u,u < k→rV U' u=if rV U u=gone then aI else rV U u):nr U' k < nr U k:=by
 refine rP _ gone (List.mem_range.2 hg) (by simpa using hgr) ?_ fun x hx h=>?_
 ·rw [hr gone hg,if_pos hgr]; simp; omega
 have hx:=List.mem_range.1 hx
 rw [hr x hx] at h
 simp only [beq_iff_eq] at h ⊢
 split at h
 ·rename_i e
  subst h
  omega
 exact h
theorem ni:∀ (n:Nat) (l:List Nat),l.Nodup→(∀ x∈l,x < n)→l.length≤n
 | 0,[],_,_=>Nat.le_refl _
 | 0,x :: r,_,h=>absurd (h x (by simp)) (Nat.not_lt_zero _)
 | n + 1,l,hn,h=>by
  by_cases hm:n∈l
  ·have:=ni n (l.erase n) (hn.erase n) fun x hx=>by
    have h1:=h x (List.mem_of_mem_erase hx)
    have h2:x ≠ n:=fun e=>by subst e; exact (List.Nodup.mem_erase_iff hn).1 hx |>.1 rfl
    omega
   rw [List.length_erase_of_mem hm] at this
   omega
  have:=ni n l hn fun x hx=>by
   have h1:=h x hx
   have h2:x ≠ n:=fun e=>hm (e ▸ hx)
   omega
  omega
end Go.Proofs.YtpobnnfkeekiaaaDoor.Pr
namespace Go.Pv
open Go.RowKit
def qz (ops : Array Oper) (xs : List I2) : Bool :=
  (List.range ops.size).all fun j =>
    ((bP ops j).after.toList.all fun e => !Region.binds .any e || e.on < j) &&
    ((List.range j).all fun i => ((bf ops).getD j 0).testBit i || jE ops (fun i => xs.getD i default) i j) &&
    (match (xs.getD j default).c.mk with
     | some κ => (List.range ops.size).all fun i => i == j || ((bf ops).getD i 0).testBit j || (HQ κ (xs.getD i default).av && ((xs.getD i default).pu || (xs.getD i default).pW.all (ED κ)))
     | none => true) && (xs.getD j default).na
theorem BY {ops:Array Oper} {xs:List I2} (h:qz ops xs=true):gP ops xs=true:=by
 have:gP ops xs=qz ops xs:=by
  unfold gP qz
  simp only [Bool.or_comm]
  rfl
 rw [this]; exact h
def wl (W:List (Nat × Int × Nat)):List PV:=W.map fun t=>.agg [.int .i64 t.1,.int .i64 t.2.1,.int .i64 t.2.2]
def fw (W:List (Nat × Int × Nat)):List AV:=bq (flat (wl W))
theorem BT (a b:List PV):flat (a++b)=flat a++flat b:=by
 induction a with
 | nil=>rfl
 | cons x r ih=>simp only [List.cons_append,flat,ih,List.append_assoc]
theorem oV (W V:List (Nat × Int × Nat)):fw (W++V)=fw W++fw V:=by
 simp only [fw,wl,List.map_append,BT,bq,List.map_append]
theorem gB (W:List (Nat × Int × Nat)):(fw W).length=W.length * 3:=by
 induction W with
 | nil=>rfl
 | cons t r ih =>
  have:=oV [t] r
  rw [List.singleton_append] at this
  rw [this,List.length_append,ih,List.length_cons]
  have:(fw [t]).length=3:=rfl
  omega
theorem CP (W:List (Nat × Int × Nat)) (a b:Nat) (x:Int):((fw (W++[(a,x,b)])).drop (W.length * 3)).take 3=[.p (.int .i64 a),.p (.int .i64 x),.p (.int .i64 b)]:=by
 rw [oV,← gB,List.drop_append_of_le_length (Nat.le_refl _),List.drop_length,List.nil_append]; rfl
theorem tE (W V:List (Nat × Int × Nat)):(fw (W++V)).take (W.length * 3)=fw W:=by
 rw [oV,← gB,List.take_append_of_le_length (Nat.le_refl _),List.take_length]
theorem HM (W:List (Nat × Int × Nat)):(fw W).all bm=true:=by
 induction W with
 | nil=>rfl
 | cons t r ih =>
  have:=oV [t] r
  rw [List.singleton_append] at this
  rw [this,List.all_append,ih]; rfl
theorem HL (L:Nat) (W:List (Nat × Int × Nat)):(fw W).all (bj L)=true:=jY _ _
theorem Gw (π:List Nat) (W:List (Nat × Int × Nat)):(fw W).map (Go.Pv.aY π)=fw W:=iW _ _
theorem Bq {W:List (Nat × Int × Nat)} {n:Nat} (h:W.length=n):((fw W).drop 0).take (n * 3)=fw W:=by
 rw [List.drop_zero,List.take_of_length_le (by rw [gB,h]; exact Nat.le_refl _)]
end Go.Pv
namespace Go.Proofs.YtpobnnfkeekiaaaDoor.Pr
open Go.Pv
section
variable {G:List Mp} {U:List Int}
end
end Go.Proofs.YtpobnnfkeekiaaaDoor.Pr
namespace Go.Pv
open Go.RowKit Go.Proofs.YtpobnnfkeekiaaaDoor Go.Proofs.YtpobnnfkeekiaaaDoor.Pr
theorem qC {P:Program} {draw:Bool} {all:Array Oper} {l:List Oper} {K:St→Prop} {s:St} (h:∀ K' : St→Prop,(∀ s',K s'→K' s')→dL P draw all l K' s):dL P draw all l K s:=h K fun _ h=>h
theorem vJ {π:List Nat} {L:Nat} (hπ:∀ i,i < L→π.getD i 0=i) {x:AV} (h:bn L x=true):bg π x=x:=by
 cases x<;>simp only [bg,bn,decide_eq_true_eq] at h ⊢
 all_goals rw [hπ _ h]
theorem Eo {π:List Nat} {L:Nat} (hπ:∀ i,i < L→π.getD i 0=i) {x:AV} (h:bj L x=true):Go.Pv.aY π x=x:=by
 have hm:∀ l:List AV,l.all (bn L)=true→l.map (bg π)=l:=fun l hl=>by
  have:=List.map_congr_left (f:=bg π) (g:=id) fun x hx=>vJ hπ ((List.all_eq_true.1 hl) x hx)
  rw [this,List.map_id]
 cases x with
 | agg l=>simp only [Go.Pv.aY]; rw [hm l h]
 | tup l=>simp only [Go.Pv.aY]; rw [hm l h]
 | cl f l=>simp only [Go.Pv.aY]; rw [hm l h]
 | yv k l vs =>
  simp only [bj,Bool.and_eq_true,decide_eq_true_eq] at h
  simp only [Go.Pv.aY]; rw [hm l h.2,hπ _ h.1]
 | _=>simp only [Go.Pv.aY]; exact vJ hπ (by simpa only [bj] using h)
theorem Ah {L M:Nat} (h:L≤M) {x:AV} (hx:bn L x=true):bn M x=true:=by
 cases x<;>simp only [bn,decide_eq_true_eq,reduceCtorEq,Bool.false_eq_true] at hx ⊢<;>omega
theorem zV {L M:Nat} (h:L≤M) {x:AV} (hx:bj L x=true):bj M x=true:=by
 have hm:∀ l:List AV,l.all (bn L)=true→l.all (bn M)=true:=fun l hl=>List.all_eq_true.2 fun y hy=>Ah h ((List.all_eq_true.1 hl) y hy)
 cases x with
 | agg l=>exact hm l hx
 | tup l=>exact hm l hx
 | cl f l=>exact hm l hx
 | yv k l vs =>
  simp only [bj,Bool.and_eq_true,decide_eq_true_eq] at hx ⊢
  exact ⟨by omega,hm l hx.2⟩
 | _=>simp only [bj] at hx ⊢; exact Ah h hx
theorem qq {π:List Nat} {H B:az} {a L:Nat} (hπ:∀ i,i < L→π.getD i 0=i) (hl:L≤π.length) (hB:∀ b∈B,bD L b=true) (h:∀ i,i < B.length→aA H (a + i)=aA B i):dQ π H (List.range' a B.length) B:=by
 refine oI h fun b hb=>?_
 have hs:=hB b hb
 cases b with
 | own c =>
  have:aA [aH.own c] 0 = .own c:=rfl
  simp only [dJ,this]
  have e:=List.map_congr_left (f:=Go.Pv.aY π) (g:=id) fun x hx=>Eo hπ ((List.all_eq_true.1 hs) x hx)
  rw [e,List.map_id,List.take_of_length_le (Nat.le_refl _)]
  exact ⟨rfl,List.all_eq_true.2 fun x hx=>zV hl ((List.all_eq_true.1 hs) x hx)⟩
 | bf i j =>
  simp only [bD,decide_eq_true_eq] at hs
  have:aA [aH.bf i j] 0 = .bf i j:=rfl
  simp only [dJ,this,hπ j hs]
  exact ⟨trivial,by omega⟩
 | dead=>trivial
 | _=>rfl
theorem zj {S s:St} {B:az} {N q:Nat} {c d:List AV} (hn:S.n=s.n) (hN:B.length=N) (hSH:S.H=B++[.own c]) (hB:∀ b∈B,bD (N + 1) b=true) (hq:N≤q) (hBq:∀ b∈B,bD N b=true) (h0:∀ i,i < N→aA s.H i=aA B i)
  (hd:aA s.H q = .own d) (hc:c.map (Go.Pv.aY (List.range N++[q]))=d.take c.length) (hcs:c.all (bj (N + 1))=true) (hsl:jr (List.range N++[q]) S.sl s):Le (List.range N++[q]) S s:=by
 have hπ:∀ i,i < N→(List.range N++[q]).getD i 0=i:=fun i hi=>by
  rw [List.getD_eq_getElem?_getD,List.getElem?_append_left (by simpa using hi)]
  simp [List.getElem?_range hi]
 have hpl:(List.range N++[q]).length=N + 1:=by simp
 refine ⟨hn,?_,?_,hsl⟩
 ·rw [List.nodup_append]
  refine ⟨List.nodup_range,by simp,fun x hx y hy=>?_⟩
  have:=List.mem_range.1 hx
  rw [List.mem_singleton] at hy
  omega
 rw [hSH]
 refine jd ?_ ⟨?_,trivial⟩
 ·have:=qq (π:=List.range N++[q]) (H:=s.H) (B:=B) (a:=0) (L:=N) hπ (by omega) hBq (fun i hi=>by rw [Nat.zero_add]; exact h0 i (by omega))
  rwa [hN,← List.range_eq_range'] at this
 simp only [dJ,hd,hpl]
 exact ⟨hc,hcs⟩
theorem iO {S s:St} {B:az} {N:Nat} (hn:S.n=s.n) (hN:B.length=N) (hSH:S.H=B) (hB:∀ b∈B,bD N b=true) (h0:∀ i,i < N→aA s.H i=aA B i) (hsl:jr (List.range N) S.sl s):Le (List.range N) S s:=by
 refine ⟨hn,List.nodup_range,?_,hsl⟩
 rw [hSH]
 have:=qq (π:=List.range N) (H:=s.H) (B:=B) (a:=0) (L:=N) (fun i hi=>by simp [List.getElem?_range hi]) (by simp) hB (fun i hi=>by rw [Nat.zero_add]; exact h0 i (by omega))
 rwa [hN,← List.range_eq_range'] at this
end Go.Pv
namespace Go.Proofs.YtpobnnfkeekiaaaDoor.Pr
open Go.Pv
section
variable {G:List Mp} {U:List Int}
end
open Go.Pv
def fP (G:List Mp) (U:List Int):Nat→List Int→Nat→Prop
 | u,[],v=>rV U u=rV U v
 | u,x :: w,v=>∃ m,m < G.length∧Ed G U u x m∧fP G U m w v
theorem Ed.mv {G:List Mp} {U:List Int} {u v u2 v2:Nat} {x:Int} (h:Ed G U u x v) (h1:rV U u=rV U u2) (h2:rV U v=rV U v2):Ed G U u2 x v2:=by
 obtain ⟨d,a,b⟩:=h
 exact ⟨d,by rw [← h1]; exact a,b.trans h2⟩
theorem cV {G:List Mp} {U:List Int} {u v:Nat} {x:Int} : Pe G U [] u x v↔Ed G U u x v:=by
 unfold Pe; simp
theorem fP.mv {G:List Mp} {U:List Int} : ∀ {w:List Int} {u v u2 v2:Nat},fP G U u w v→rV U u=rV U u2→rV U v=rV U v2→fP G U u2 w v2
 | [],_,_,_,_,h,h1,h2=>by rw [fP] at h ⊢; rw [← h1,← h2]; exact h
 | x :: w,_,_,_,_,⟨m,a,b,c⟩,h1,h2=>⟨m,a,b.mv h1 rfl,c.mv rfl h2⟩
theorem fP.snoc {G:List Mp} {U:List Int} {x:Int} {m v:Nat} (hm:m < G.length) (hv:v < G.length) (he:Ed G U m x v):∀ {w:List Int} {u:Nat},fP G U u w m→fP G U u (w++[x]) v
 | [],u,h=>⟨v,hv,he.mv h.symm rfl,rfl⟩
 | y :: w,u,⟨n,a,b,c⟩=>⟨n,a,b,fP.snoc hm hv he c⟩
theorem sO.ed {G G' : List Mp} {U U' : List Int} {W:List E3} (h:sO G U W G' U' []) {u v:Nat} {x:Int} (hu:u < G.length) (hv:v < G.length) (he:Ed G U u x v):Ed G' U' u x v:=cV.1 (h.aI u x v hu hv (.inl he))
theorem fP.IA {G G' : List Mp} {U U' : List Int} {W:List E3} (h:sO G U W G' U' []):∀ {w:List Int} {u v:Nat},u < G.length→v < G.length→fP G U u w v→fP G' U' u w v
 | [],u,v,hu,hv,hp=>h.same u v hu hv hp
 | x :: w,u,v,hu,hv,⟨m,a,b,c⟩=>⟨m,by rw [h.len]; exact a,h.ed hu a b,fP.IA h a hv c⟩
theorem sX {G:List Mp} {i:Nat} {f:Mp} (h:i < G.length):gm (G++[f]) i=gm G i:=by
 unfold gm
 rw [List.getD_eq_getElem?_getD,List.getElem?_append_left h,← List.getD_eq_getElem?_getD]
theorem A8 {G:List Mp} {f:Mp} : gm (G++[f]) G.length=f:=by
 unfold gm; simp
def DG:Mp:=fun _=>none
theorem WG.place {G:List Mp} {U:List Int} (w:WG G U):WG (G++[DG]) (U++[(U.length:Int)]):=by
 refine ⟨by simp [w.len],w.fo.snoc,fun v x d hv h=>?_⟩
 rw [List.length_append,List.length_singleton] at hv ⊢
 by_cases e:v < G.length
 ·rw [sX e] at h
  obtain ⟨a,b,c⟩:=w.tp v x d e h
  exact ⟨a,by omega,c⟩
 obtain rfl:v=G.length:=by omega
 rw [A8] at h; cases h
theorem WG.gA {G:List Mp} {U:List Int} (w:WG G U) {u:Nat} (h:u < G.length):rV (U++[(U.length:Int)]) u=rV U u:=Dq w.fo u (by rw [w.len]; exact h)
theorem WG.xj {G:List Mp} {U:List Int} (w:WG G U):rV (U++[(U.length:Int)]) G.length=G.length:=by
 rw [← w.len]; exact FV U
theorem jC {G:List Mp} {U:List Int} (w:WG G U) {u v:Nat} {x:Int} (hu:u < G.length + 1) (hv:v < G.length + 1):Ed (G++[DG]) (U++[(U.length:Int)]) u x v↔u < G.length∧v < G.length∧Ed G U u x v:=by
 constructor
 ·rintro ⟨d,a,b⟩
  by_cases e:u < G.length
  ·rw [w.gA e,sX (w.mw e)] at a
   have hd:=(w.tp _ _ _ (w.mw e) a).2.1
   rw [w.gA hd] at b
   by_cases e2:v < G.length
   ·rw [w.gA e2] at b
    exact ⟨e,e2,d,a,b⟩
   obtain rfl:v=G.length:=by omega
   rw [w.xj] at b
   have:=w.mw hd
   omega
  obtain rfl:u=G.length:=by omega
  rw [w.xj,A8] at a; cases a
 rintro ⟨e,e2,d,a,b⟩
 have hd:=(w.tp _ _ _ (w.mw e) a).2.1
 exact ⟨d,by rw [w.gA e,sX (w.mw e)]; exact a,by rw [w.gA hd,w.gA e2]; exact b⟩
theorem zl {G:List Mp} {U:List Int} (w:WG G U) (h:kc G U []):kc (G++[DG]) (U++[(U.length:Int)]) []:=fun u x v hu hv e=>by
 rw [List.length_append,List.length_singleton] at hu hv
 rw [cV,jC w hu hv] at e
 rw [cV,jC w hv hu]
 exact ⟨e.2.1,e.1,cV.1 (h u x v e.1 e.2.1 (cV.2 e.2.2))⟩
theorem fP.place {G:List Mp} {U:List Int} (w:WG G U):∀ {l:List Int} {u v:Nat},u < G.length→v < G.length→fP G U u l v→fP (G++[DG]) (U++[(U.length:Int)]) u l v
 | [],u,v,hu,hv,hp=>by rw [fP] at hp ⊢; rw [w.gA hu,w.gA hv]; exact hp
 | x :: l,u,v,hu,hv,⟨m,a,b,c⟩=>⟨m,by simp; omega,(jC w (by omega) (by omega)).2 ⟨hu,a,b⟩,fP.place w a hv c⟩
theorem yR {X:Type} {step:X→Int→Option X} {κ:Nat→X} {G:List Mp} {U:List Int} (w:WG G U) (h:Ea step κ G U []) (c:X):Ea step (fun u=>if u=G.length then c else κ u) (G++[DG]) (U++[(U.length:Int)]) []:=by
 refine ⟨fun u hu=>?_,fun u x v hu hv e=>?_⟩
 ·rw [List.length_append,List.length_singleton] at hu
  by_cases e:u < G.length
  ·have:=w.mw e
   rw [w.gA e]
   show (if rV U u=G.length then c else κ (rV U u))=if u=G.length then c else κ u
   rw [if_neg (by omega),if_neg (by omega)]; exact h.1 u e
  obtain rfl:u=G.length:=by omega
  rw [w.xj]
 rw [List.length_append,List.length_singleton] at hu hv
 rw [cV,jC w hu hv] at e
 simp only
 rw [if_neg (by omega),if_neg (by omega)]
 exact h.2 u x v e.1 e.2.1 (cV.2 e.2.2)
theorem DK {G:List Mp} {U:List Int} (h:kc G U []) (a:Nat) (x:Int) (b:Nat):kc G U [(a,x,b),(b,-x,a)]:=fun u y v hu hv e=>by
 rcases e with e | ⟨t,ht,h1,h2,h3⟩
 ·exact .inl (cV.1 (h u y v hu hv (cV.2 e)))
 simp only [List.mem_cons,List.not_mem_nil,or_false] at ht
 rcases ht with rfl | rfl
 ·simp only at h1 h2 h3
  exact .inr ⟨(b,-x,a),by simp,h3,by rw [← h2],h1⟩
 simp only at h1 h2 h3
 exact .inr ⟨(a,x,b),by simp,h3,by rw [← h2]; simp,h1⟩
theorem xw {X:Type} {step:X→Int→Option X} {κ:Nat→X} {G:List Mp} {U:List Int} {a b:Nat} {x:Int} (ha:a < G.length) (hb:b < G.length) (h:Ea step κ G U []) (h1:step (κ a) x=some (κ b)) (h2:step (κ b) (-x)=some (κ a)):Ea step κ G U [(a,x,b),(b,-x,a)]:=by
 refine ⟨h.1,fun u y v hu hv e=>?_⟩
 have key:∀ {s t:Nat},s < G.length→t < G.length→rV U s=rV U t→κ s=κ t:=fun {s t} hs ht e=>by rw [← h.1 s hs,← h.1 t ht,e]
 rcases e with e | ⟨t,ht,e1,e2,e3⟩
 ·exact h.2 u y v hu hv (cV.2 e)
 simp only [List.mem_cons,List.not_mem_nil,or_false] at ht
 rcases ht with rfl | rfl
 ·simp only at e1 e2 e3
  rw [← key ha hu e1,← key hb hv e3,← e2]; exact h1
 simp only at e1 e2 e3
 rw [← key hb hu e1,← key ha hv e3,← e2]; exact h2
def tZ {X:Type} (step:X→Int→Option X):X→List Int→Option X
 | c,[]=>some c
 | c,x :: w=>match step c x with | some d=>tZ step d w | none=>none
theorem uC {X:Type} (step:X→Int→Option X):∀ (w w' : List Int) (c:X),tZ step c (w++w')=(tZ step c w).bind fun d=>tZ step d w'
 | [],w',c=>rfl
 | x :: w,w',c=>by
  simp only [List.cons_append,tZ]
  cases step c x with
  | none=>rfl
  | some d=>exact uC step w w' d
def Jz (G:List Mp) (U:List Int) (L:List (List Int)) (v:Nat) (p:List Int):Prop:=
 ∀ (X:Type) (step:X→Int→Option X) (x0:X),(∀ c d x,x ≠ 0→step c x=some d→step d (-x)=some c)→(∀ w∈L,tZ step x0 w=some x0)→∃ κ:Nat→X,κ 0=x0∧Ea step κ G U []∧tZ step x0 p=some (κ v)
structure FI (L:List (List Int)) (G:List Mp) (U:List Int) (done:List (List Int)) (v:Nat) (p:List Int):Prop where
 wg:WG G U
 pos:0 < G.length
 lt:v < G.length
 sym:kc G U []
 cl:∀ w∈done,fP G U 0 w 0
 oo:fP G U 0 p v
 con:∀ u,u < G.length→∃ w,fP G U 0 w u
 uni:Jz G U L v p
theorem FI.back {L:List (List Int)} {G:List Mp} {U:List Int} {done:List (List Int)} {v:Nat} {p:List Int} (h:FI L G U done v p) {x:Int} (hx:x ≠ 0) (hm:p++[x]∈L) {G' : List Mp} {U' : List Int} (hw:WG G' U')
  (hn:sO G U [(v,x,0),(0,-x,v)] G' U' []):FI L G' U' (done++[p++[x]]) 0 []:=by
 have hl:=hn.len
 have h0:=h.pos
 have hv:=h.lt
 refine ⟨hw,by omega,by omega,hn.sym,fun w hw=>?_,rfl,fun u hu=>(h.con u (by omega)).imp fun q hq=>fP.IA hn h0 (by omega) hq,fun X step x0 hi hc=>?_⟩
 ·rcases List.mem_append.1 hw with hw | hw
  ·exact fP.IA hn h0 h0 (h.cl w hw)
  rw [List.mem_singleton] at hw
  subst hw
  have h2:Ed G' U' v x 0:=cV.1 (hn.aI v x 0 hv h0 (.inr ⟨_,List.mem_cons_self,rfl,rfl,rfl⟩))
  exact (fP.IA hn h0 hv h.oo).snoc (by omega) (by omega) h2
 obtain ⟨κ,k1,k2,k3⟩:=h.uni X step x0 hi hc
 have hx0:step (κ v) x=some (κ 0):=by
  have:=hc _ hm
  rw [uC,k3] at this
  simp only [Option.bind_some,tZ] at this
  rw [k1]
  cases e:step (κ v) x with
  | none=>rw [e] at this; cases this
  | some y=>rw [e] at this; exact this
 exact ⟨κ,k1,hn.cmp X step _ (xw hv h0 k2 hx0 (hi _ _ _ hx hx0)),by rw [← k1]; rfl⟩
theorem FI.nil {L:List (List Int)} {G:List Mp} {U:List Int} {done:List (List Int)} (h:FI L G U done 0 []):FI L G U (done++[[]]) 0 []:=
 ⟨h.wg,h.pos,h.lt,h.sym,fun w hw=>by
  rcases List.mem_append.1 hw with hw | hw
  ·exact h.cl w hw
  rw [List.mem_singleton] at hw; subst hw; rfl,h.oo,h.con,h.uni⟩
end Go.Proofs.YtpobnnfkeekiaaaDoor.Pr
namespace Go.Pv
open Go.RowKit Go.Proofs.YtpobnnfkeekiaaaDoor Go.Proofs.YtpobnnfkeekiaaaDoor.Pr
theorem sk:∀ (ks:List Nat) (bs H:az) (k:Nat),k ∉ ks→k < H.length→(dE H ks bs)[k]? = H[k]?
 | [],bs,H,k,_,hk=>by simp only [dE]; rw [List.getElem?_append_left hk]
 | k0 :: ks,[],H,k,_,_=>rfl
 | k0 :: ks,b0 :: bs,H,k,hn,hk=>by
  simp only [dE]
  rw [sk ks bs _ k (fun h=>hn (by simp [h])) (by rw [aB]; exact hk),bF,if_neg (fun h=>hn (by simp [h.1]))]
theorem vU:∀ (ks:List Nat) (bs H:az),ks.Nodup→(∀ k∈ks,k < H.length)→ks.length≤bs.length→∀ (j:Nat) {b:aH} {k:Nat},bs[j]? = some b→(ks++List.range' H.length (bs.length - ks.length))[j]? = some k→(dE H ks bs)[k]? = some b
 | [],bs,H,_,_,_,j,b,k,h1,h2=>by
  have hj:=(List.getElem?_eq_some_iff.1 h1).1
  simp only [List.nil_append,List.length_nil,Nat.sub_zero] at h2
  rw [List.getElem?_range' hj] at h2
  simp only [Option.some.injEq,Nat.one_mul] at h2
  subst h2
  simp only [dE]
  rw [List.getElem?_append_right (by omega),Nat.add_sub_cancel_left]; exact h1
 | k0 :: ks,[],H,_,_,hl,j,b,k,h1,h2=>by simp at hl
 | k0 :: ks,b0 :: bs,H,hnd,hk,hl,0,b,k,h1,h2=>by
  simp at h1 h2
  subst h1 h2
  simp only [dE]
  rw [sk ks bs _ k0 (List.nodup_cons.1 hnd).1 (by rw [aB]; exact hk k0 (by simp)),bF,if_pos ⟨rfl,hk k0 (by simp)⟩]
 | k0 :: ks,b0 :: bs,H,hnd,hk,hl,j + 1,b,k,h1,h2=>by
  simp only [dE]
  refine vU ks bs _ (List.nodup_cons.1 hnd).2 (fun k hk'=>by rw [aB]; exact hk k (by simp [hk'])) (by simpa using hl) j (by simpa using h1) ?_
  rw [aB]
  simpa using h2
end Go.Pv
namespace Go.Proofs.YtpobnnfkeekiaaaDoor.Pr
open Go.Pv
section
variable {G:List Mp} {U:List Int}
end
open Go.Pv
theorem GW (L:List (List Int)) (w:List Int):kU (L++[w])=kU L + w.length:=by simp [kU]
theorem G9 (L:List (List Int)) (i:Nat):kU (L.take i)≤kU L:=by
 have:kU L=kU (L.take i) + kU (L.drop i):=by
  unfold kU
  rw [← List.length_append,← List.flatten_append,List.take_append_drop]
 omega
theorem kI {α:Type} {L:List α} {i:Nat} {d:α} (h:i < L.length):L.take (i + 1)=L.take i++[L.getD i d]:=by
 rw [List.take_succ,List.getElem?_eq_getElem h,List.getD_eq_getElem?_getD,List.getElem?_eq_getElem h]; rfl
def HO (w:List Int):Prop:=∀ x∈w,x ≠ 0∧-26≤x∧x≤26
section
variable {G:List Mp} {U:List Int}
end
open Go.Pv
def zb:List (List Int)→Nat→Nat→Int × Int
 | [],_,_=>(0,0)
 | w :: r,i,n=>if (check w).1 ≠ 0 then ((check w).1,(i:Int)) else if 2000 < n + w.length then (2,(i:Int)) else zb r (i + 1) (n + w.length)
def qQ (L:List (List Int)):Int × Int:=if 20 < L.length then (2,0) else zb L 0 0
theorem pO (c at_:Int):ct Tryd.prog 50 [.int .i64 c,.int .i64 at_] (fl (c,at_)):=by
 refine aV ae Tryd.func50 rfl (by kernel_rfl) (by rw [Tryd.ntmps50]; exact Nat.le_add_left 2 _) ?_; rw [Tryd.ntmps50]
 refine qm ?_
 refine ab fun K hK=>aa ae ?_
 simp only [an,fl,gp,ak,simprocAttr]
 refine af ?_ (hK _ ?_)<;>clear hK K
 ·first|exact trivial|omega|(simp only [ah] at *; omega)|(simp [ah] at *; omega)|simp_all
 refine qa (qm ?_)
 refine ab fun K hK=>aa ae ?_
 simp only [an,fl,gp,ak,simprocAttr]
 refine af ?_ (hK _ ?_)<;>clear hK K
 ·first|exact trivial|omega|(simp only [ah] at *; omega)|(simp [ah] at *; omega)|simp_all
 refine qa (qk ?_)
 simp only [Tryd.results50,bT,an,fl,gp,ak,simprocAttr]
 all_goals ((first|exact rfl|exact ⟨rfl,rfl⟩|exact ⟨rfl,rfl,rfl⟩|exact ⟨trivial,rfl⟩|exact ⟨Nat.le_refl _,rfl⟩|trivial|(simp; done)))
set_option maxHeartbeats 4000000 in
theorem AY (L:List (List Int)) (hl:L.length≤1000000000) (hw:∀ w∈L,w.length≤1000000000):ct Tryd.prog 40 [.list (ll L)] (fl (qQ L)):=by
 refine aV ae Tryd.func40 rfl (by kernel_rfl) (by rw [Tryd.ntmps40]; exact Nat.le_add_left 1 _) ?_; rw [Tryd.ntmps40]
 refine qm ?_
 refine ab fun K hK=>aa ae ?_
 simp only [an,fl,gp,ak,simprocAttr]
 refine af ?_ (hK _ ?_)<;>clear hK K
 ·first|exact trivial|omega|(simp only [ah] at *; omega)|(simp [ah] at *; omega)|simp_all
 refine qa (qm (qm ?_))
 refine ab fun K hK=>aa ae ?_
 simp only [an,fl,gp,ak,simprocAttr,aC]
 refine af trivial (hK _ ?_)<;>clear hK K
 refine qa ?_
 refine aq rfl (fun hC1=>?_) (fun hC1=>?_)
 ·(try simp only [aE] at hC1)
  have h20:20 < L.length:=by omega
  refine qm ?_
  refine ab fun K hK=>aa ae ?_
  simp only [an,fl,gp,ak,simprocAttr]
  refine ao trivial (au (pO 2 0) rfl rfl rfl (by simp only [ay,Nat.reduceLT]) (by repeat (first|exact trivial|constructor)) (aa ae ?_))
  simp only [an,fl,gp,ak,simprocAttr]
  refine af ?_ (hK _ ?_)<;>clear hK K
  ·first|exact trivial|omega|(simp only [ah] at *; omega)|(simp [ah] at *; omega)|simp_all
  refine qa (qk (qb ?_))
  simp only [Tryd.results40,bT,an,fl,gp,ak,simprocAttr]
  have e:qQ L=(2,0):=by unfold qQ; rw [if_pos (by omega)]
  rw [e]
  exact ⟨rfl,rfl⟩
 (try simp only [aE] at hC1)
 have h20:¬ 20 < L.length:=by omega
 refine qh (qa (qm ?_))
 refine ab fun K hK=>aa ae ?_
 simp only [an,fl,gp,ak,simprocAttr]
 refine af trivial (hK _ ?_)<;>clear hK K
 refine qa (qm (qm ?_))
 refine ab fun K hK=>aa ae ?_
 simp only [an,fl,gp,ak,simprocAttr,aC]
 refine af trivial (hK _ ?_)<;>clear hK K
 refine qa (ql ?_)
 refine aD (ι:=Nat × Nat) (fun q=>⟨37,[(2,.ptr 0 0),(3,.p (.int .i64 (q.2:Nat))),(11,.p (.list (ll L))),(12,.p (.int .i64 L.length)),(13,.p (.int .i64 (q.1:Nat)))],[.own [.p (.int .i64 0),.p (.int .i64 0)]]⟩) (fun q=>q.1≤L.length∧q.2≤2000∧qQ L=zb (L.drop q.1) q.1 q.2) (fun q=>L.length - q.1) (0,0) ⟨Nat.zero_le _,Nat.zero_le _,by unfold qQ; rw [if_neg h20]; rfl⟩ [0] (by simp only [leq,bx,an,fl,gp,ak,simprocAttr]<;>trivial) fun q hq=>?_
 obtain ⟨i,n⟩:=q
 obtain ⟨q1,q2,q3⟩:=hq
 simp only at q1 q2 q3 ⊢
 refine qm ?_
 refine ab fun K hK=>aa ae ?_
 simp only [an,fl,gp,ak,simprocAttr]
 refine af trivial (hK _ ?_)<;>clear hK K
 refine qa (qm ?_)
 refine aq rfl (fun hC2=>?_) (fun hC2=>?_)
 ·(try simp only [aE] at hC2)
  have hi:i < L.length:=by omega
  have hdr:L.drop i=L.getD i [] :: L.drop (i + 1):=by
   rw [List.drop_eq_getElem_cons hi,List.getD_eq_getElem?_getD,List.getElem?_eq_getElem hi]; rfl
  obtain ⟨w,hwd⟩:∃ w,L.getD i []=w:=⟨_,rfl⟩
  have hwl:w.length≤1000000000:=hw w (by rw [← hwd,List.getD_eq_getElem?_getD,List.getElem?_eq_getElem hi]; exact List.getElem_mem hi)
  rw [hdr,hwd,zb] at q3
  refine qh (qa (qm (ql (qm ?_))))
  refine ab fun K hK=>aa ae ?_
  simp only [an,fl,gp,ak,simprocAttr,aC,b8 hi,hwd]
  refine af ?_ (hK _ ?_)<;>clear hK K
  ·omega
  refine qa (qm (qm ?_))
  refine ab fun K hK=>aa ae ?_
  simp only [an,fl,gp,ak,simprocAttr]
  refine ao trivial (au (mF w) rfl rfl rfl (by simp only [ay,Nat.reduceLT]) (by repeat (first|exact trivial|constructor)) (aa ae ?_))
  simp only [an,fl,gp,ak,simprocAttr]
  refine af ?_ (hK _ ?_)<;>clear hK K
  ·first|exact trivial|omega|(simp only [ah] at *; omega)|(simp [ah] at *; omega)|simp_all
  refine qa (qm ?_)
  refine ab fun K hK=>aa ae ?_
  simp only [an,fl,gp,ak,simprocAttr]
  refine af ?_ (hK _ ?_)<;>clear hK K
  ·first|exact trivial|omega|(simp only [ah] at *; omega)|(simp [ah] at *; omega)|simp_all
  refine qa ?_
  refine aq rfl (fun hC3=>?_) (fun hC3=>?_)
  ·(try simp only [aE] at hC3)
   have h0:(check w).1 ≠ 0:=hC3
   rw [if_pos h0] at q3
   refine qm ?_
   refine ab fun K hK=>aa ae ?_
   simp only [an,fl,gp,ak,simprocAttr]
   refine ao trivial (au (pO (check w).1 i) rfl rfl rfl (by simp only [ay,Nat.reduceLT]) (by repeat (first|exact trivial|constructor)) (aa ae ?_))
   simp only [an,fl,gp,ak,simprocAttr]
   refine af ?_ (hK _ ?_)<;>clear hK K
   ·first|exact trivial|omega|(simp only [ah] at *; omega)|(simp [ah] at *; omega)|simp_all
   refine qa (qk (qb (qe (qb (qb (qe (qb ?_)))))))
   simp only [Tryd.results40,bT,an,fl,gp,ak,simprocAttr]
   all_goals (rw [q3]; exact ⟨rfl,rfl⟩)
  (try simp only [aE] at hC3)
  have h0:¬ (check w).1 ≠ 0:=fun h=>h hC3
  rw [if_neg h0] at q3
  refine qh (qa (qm ?_))
  refine ab fun K hK=>aa ae ?_
  simp only [an,fl,gp,ak,simprocAttr,aw]
  refine af ?_ (hK _ ?_)<;>clear hK K
  ·first|exact trivial|omega|(simp only [ah] at *; omega)|(simp [ah] at *; omega)|simp_all
  refine qa (qm ?_)
  refine ab fun K hK=>aa ae ?_
  simp only [an,fl,gp,ak,simprocAttr]
  refine af trivial (hK _ ?_)<;>clear hK K
  refine qa ?_
  refine aq rfl (fun hC4=>?_) (fun hC4=>?_)
  ·(try simp only [aE] at hC4)
   have h1:2000 < n + w.length:=by omega
   rw [if_pos h1] at q3
   refine qm ?_
   refine ab fun K hK=>aa ae ?_
   simp only [an,fl,gp,ak,simprocAttr]
   refine ao trivial (au (pO 2 i) rfl rfl rfl (by simp only [ay,Nat.reduceLT]) (by repeat (first|exact trivial|constructor)) (aa ae ?_))
   simp only [an,fl,gp,ak,simprocAttr]
   refine af ?_ (hK _ ?_)<;>clear hK K
   ·first|exact trivial|omega|(simp only [ah] at *; omega)|(simp [ah] at *; omega)|simp_all
   refine qa (qk (qe (qb (qb (qe (qb ?_))))))
   simp only [Tryd.results40,bT,an,fl,gp,ak,simprocAttr]
   all_goals (rw [q3]; exact ⟨rfl,rfl⟩)
  (try simp only [aE] at hC4)
  have h1:¬ 2000 < n + w.length:=by omega
  rw [if_neg h1] at q3
  refine qh (qd (qa ?_))
  refine ab fun K hK=>aa ae ?_
  simp only [an,fl,gp,ak,simprocAttr]
  refine af ?_ (hK _ ?_)<;>clear hK K
  ·first|exact trivial|omega|(simp only [ah] at *; omega)|(simp [ah] at *; omega)|simp_all
  refine qa ?_
  refine ⟨(i + 1,n + w.length),[0],⟨by simp only; omega,by simp only; omega,q3⟩,by simp only; omega,?_⟩
  simp only [leq,bx,an,fl,gp,ak,simprocAttr]<;>first|trivial|trace_state
 (try simp only [aE] at hC2)
 refine qj (qc (qc (qf (qa (qm ?_)))))
 refine ab fun K hK=>aa ae ?_
 simp only [an,fl,gp,ak,simprocAttr]
 refine af ?_ (hK _ ?_)<;>clear hK K
 ·first|exact trivial|omega|(simp only [ah] at *; omega)|(simp [ah] at *; omega)|simp_all
 refine qa (qk ?_)
 simp only [Tryd.results40,bT,an,fl,gp,ak,simprocAttr]
 have hie:i=L.length:=by omega
 rw [hie,List.drop_length,zb] at q3
 rw [q3]
 exact ⟨rfl,rfl⟩
set_option maxHeartbeats 4000000 in
theorem um (L:List (List Int)) (hl:L.length≤1000000000) (hw:∀ w∈L,w.length≤1000000000):ct Tryd.prog 27 [.list (ll L)] (fl (qQ L)):=by
 refine aV ae Tryd.func27 rfl (by kernel_rfl) (by rw [Tryd.ntmps27]; exact Nat.le_add_left 1 _) ?_; rw [Tryd.ntmps27]
 refine qm ?_
 refine ab fun K hK=>aa ae ?_
 simp only [an,fl,gp,ak,simprocAttr]
 refine af ?_ (hK _ ?_)<;>clear hK K
 ·first|exact trivial|omega|(simp only [ah] at *; omega)|(simp [ah] at *; omega)|simp_all
 refine qa (qm (qm ?_))
 refine ab fun K hK=>aa ae ?_
 simp only [an,fl,gp,ak,simprocAttr,aC]
 refine af trivial (hK _ ?_)<;>clear hK K
 refine qa ?_
 refine aq rfl (fun hC1=>?_) (fun hC1=>?_)
 ·(try simp only [aE] at hC1)
  have h20:20 < L.length:=by omega
  refine qm ?_
  refine ab fun K hK=>aa ae ?_
  simp only [an,fl,gp,ak,simprocAttr]
  refine ao trivial (au (pN 2 0) rfl rfl rfl (by simp only [ay,Nat.reduceLT]) (by repeat (first|exact trivial|constructor)) (aa ae ?_))
  simp only [an,fl,gp,ak,simprocAttr]
  refine af ?_ (hK _ ?_)<;>clear hK K
  ·first|exact trivial|omega|(simp only [ah] at *; omega)|(simp [ah] at *; omega)|simp_all
  refine qa (qk (qb ?_))
  simp only [Tryd.results27,bT,an,fl,gp,ak,simprocAttr]
  have e:qQ L=(2,0):=by unfold qQ; rw [if_pos (by omega)]
  rw [e]
  exact ⟨rfl,rfl⟩
 (try simp only [aE] at hC1)
 have h20:¬ 20 < L.length:=by omega
 refine qh (qa (qm ?_))
 refine ab fun K hK=>aa ae ?_
 simp only [an,fl,gp,ak,simprocAttr]
 refine af trivial (hK _ ?_)<;>clear hK K
 refine qa (qm (qm ?_))
 refine ab fun K hK=>aa ae ?_
 simp only [an,fl,gp,ak,simprocAttr]
 refine af trivial (hK _ ?_)<;>clear hK K
 refine qa (ql ?_)
 refine aD (ι:=Nat × Nat) (fun q=>⟨40,[(0,.p (.list (ll L))),(2,.ptr 0 0),(3,.p (.int .i64 (q.2:Nat))),(4,.p (.int .i64 (q.1:Nat)))],[.own [.p (.int .i64 0),.p (.int .i64 0)]]⟩) (fun q=>q.1≤L.length∧q.2≤2000∧qQ L=zb (L.drop q.1) q.1 q.2) (fun q=>L.length - q.1) (0,0) ⟨Nat.zero_le _,Nat.zero_le _,by unfold qQ; rw [if_neg h20]; rfl⟩ [0] (by simp only [leq,bx,an,fl,gp,ak,simprocAttr]<;>trivial) fun q hq=>?_
 obtain ⟨i,n⟩:=q
 obtain ⟨q1,q2,q3⟩:=hq
 simp only at q1 q2 q3 ⊢
 refine qm (qm ?_)
 refine ab fun K hK=>aa ae ?_
 simp only [an,fl,gp,ak,simprocAttr,aC]
 refine af trivial (hK _ ?_)<;>clear hK K
 refine qa ?_
 refine aq rfl (fun hC2=>?_) (fun hC2=>?_)
 ·(try simp only [aE] at hC2)
  have hi:i < L.length:=by omega
  have hdr:L.drop i=L.getD i [] :: L.drop (i + 1):=by
   rw [List.drop_eq_getElem_cons hi,List.getD_eq_getElem?_getD,List.getElem?_eq_getElem hi]; rfl
  obtain ⟨w,hwd⟩:∃ w,L.getD i []=w:=⟨_,rfl⟩
  have hwl:w.length≤1000000000:=hw w (by rw [← hwd,List.getD_eq_getElem?_getD,List.getElem?_eq_getElem hi]; exact List.getElem_mem hi)
  rw [hdr,hwd,zb] at q3
  refine qh (qa (qm (ql (qm ?_))))
  refine ab fun K hK=>aa ae ?_
  simp only [an,fl,gp,ak,simprocAttr,aC,b8 hi,hwd]
  refine ao ?_ (au (uN w) rfl rfl rfl (by simp only [ay,Nat.reduceLT]) (by repeat (first|exact trivial|constructor)) (aa ae ?_))
  ·(first|exact trivial|omega|exact ⟨by omega,by omega⟩|trace_state)
  simp only [an,fl,gp,ak,simprocAttr,aC,b8 hi,hwd]
  refine af ?_ (hK _ ?_)<;>clear hK K
  ·(first|exact trivial|omega|trace_state)
  refine qa (qm (qm ?_))
  refine ab fun K hK=>aa ae ?_
  simp only [an,fl,gp,ak,simprocAttr]
  refine af ?_ (hK _ ?_)<;>clear hK K
  ·first|exact trivial|omega|(simp only [ah] at *; omega)|(simp [ah] at *; omega)|simp_all
  refine qa ?_
  refine aq rfl (fun hC3=>?_) (fun hC3=>?_)
  ·(try simp only [aE] at hC3)
   have h0:(check w).1 ≠ 0:=hC3
   rw [if_pos h0] at q3
   refine qm ?_
   refine ab fun K hK=>aa ae ?_
   simp only [an,fl,gp,ak,simprocAttr]
   refine ao trivial (au (pN (check w).1 i) rfl rfl rfl (by simp only [ay,Nat.reduceLT]) (by repeat (first|exact trivial|constructor)) (aa ae ?_))
   simp only [an,fl,gp,ak,simprocAttr]
   refine af ?_ (hK _ ?_)<;>clear hK K
   ·first|exact trivial|omega|(simp only [ah] at *; omega)|(simp [ah] at *; omega)|simp_all
   refine qa (qk (qb (qe (qb (qb (qe (qb ?_)))))))
   simp only [Tryd.results27,bT,an,fl,gp,ak,simprocAttr]
   all_goals (rw [q3]; exact ⟨rfl,rfl⟩)
  (try simp only [aE] at hC3)
  have h0:¬ (check w).1 ≠ 0:=fun h=>h hC3
  rw [if_neg h0] at q3
  refine qh (qa (qm ?_))
  refine ab fun K hK=>aa ae ?_
  simp only [an,fl,gp,ak,simprocAttr,aw,aC,b8 hi,hwd]
  refine af ?_ (hK _ ?_)<;>clear hK K
  ·(first|omega|(simp only [ah]; omega)|exact ⟨by omega,by simp only [ah]; omega⟩|trace_state)
  refine qa (qm ?_)
  refine ab fun K hK=>aa ae ?_
  simp only [an,fl,gp,ak,simprocAttr]
  refine af trivial (hK _ ?_)<;>clear hK K
  refine qa ?_
  refine aq rfl (fun hC4=>?_) (fun hC4=>?_)
  ·(try simp only [aE] at hC4)
   have h1:2000 < n + w.length:=by omega
   rw [if_pos h1] at q3
   refine qm ?_
   refine ab fun K hK=>aa ae ?_
   simp only [an,fl,gp,ak,simprocAttr]
   refine ao trivial (au (pN 2 i) rfl rfl rfl (by simp only [ay,Nat.reduceLT]) (by repeat (first|exact trivial|constructor)) (aa ae ?_))
   simp only [an,fl,gp,ak,simprocAttr]
   refine af ?_ (hK _ ?_)<;>clear hK K
   ·first|exact trivial|omega|(simp only [ah] at *; omega)|(simp [ah] at *; omega)|simp_all
   refine qa (qk (qe (qb (qb (qe (qb ?_))))))
   simp only [Tryd.results27,bT,an,fl,gp,ak,simprocAttr]
   all_goals (rw [q3]; exact ⟨rfl,rfl⟩)
  (try simp only [aE] at hC4)
  have h1:¬ 2000 < n + w.length:=by omega
  rw [if_neg h1] at q3
  refine qh (qd (qa ?_))
  refine ab fun K hK=>aa ae ?_
  simp only [an,fl,gp,ak,simprocAttr]
  refine af ?_ (hK _ ?_)<;>clear hK K
  ·first|exact trivial|omega|(simp only [ah] at *; omega)|(simp [ah] at *; omega)|simp_all
  refine qa ?_
  refine ⟨(i + 1,n + w.length),[0],⟨by simp only; omega,by simp only; omega,q3⟩,by simp only; omega,?_⟩
  simp only [leq,bx,an,fl,gp,ak,simprocAttr]<;>first|trivial|trace_state
 (try simp only [aE] at hC2)
 refine qj (qc (qc (qf (qa (qm ?_)))))
 refine ab fun K hK=>aa ae ?_
 simp only [an,fl,gp,ak,simprocAttr]
 refine af ?_ (hK _ ?_)<;>clear hK K
 ·first|exact trivial|omega|(simp only [ah] at *; omega)|(simp [ah] at *; omega)|simp_all
 refine qa (qk ?_)
 simp only [Tryd.results27,bT,an,fl,gp,ak,simprocAttr]
 have hie:i=L.length:=by omega
 rw [hie,List.drop_length,zb] at q3
 rw [q3]
 exact ⟨rfl,rfl⟩
set_option maxHeartbeats 4000000 in
theorem wi (L:List (List Int)) (hl:L.length≤1000000000) (hw:∀ w∈L,w.length≤1000000000):ct Tryd.prog 9 [.list (ll L)] (.list (ll L)):=by
 refine aV ae Tryd.func9 rfl (by kernel_rfl) (by rw [Tryd.ntmps9]; exact Nat.le_add_left 1 _) ?_; rw [Tryd.ntmps9]
 refine qm ?_
 refine ab fun K hK=>aa ae ?_
 simp only [an,fl,gp,ak,simprocAttr]
 refine af trivial (hK _ ?_)<;>clear hK K
 refine qa (qm ?_)
 refine ab fun K hK=>aa ae ?_
 simp only [an,fl,gp,ak,simprocAttr]
 refine af trivial (hK _ ?_)<;>clear hK K
 refine qa (qm (qm ?_))
 refine ji 3 rfl ?_
 refine ab fun K hK=>aa ae ?_
 simp only [an,fl,gp,ak,simprocAttr]
 refine af trivial (hK _ ?_)<;>clear hK K
 refine qa (ql ?_)
 refine aD (ι:=Nat) (fun i=>⟨20,[(0,.p (.list (ll L))),(3,.sl 0 0 i),(4,.p (.int .i64 (i:Nat)))],[.own (bq (ll (L.take i)))]⟩) (fun i=>i≤L.length) (fun i=>L.length - i) 0 (Nat.zero_le _) [0] ⟨rfl,by decide,⟨⟨rfl,rfl⟩,trivial⟩,rfl,rfl,rfl,rfl,rfl,rfl,trivial⟩ fun i hq=>?_
 refine qm (qm ?_)
 refine ab fun K hK=>aa ae ?_
 simp only [an,fl,gp,ak,simprocAttr,aC]
 refine af trivial (hK _ ?_)<;>clear hK K
 refine qa ?_
 refine aq rfl (fun hC1=>?_) (fun hC1=>?_)
 ·(try simp only [aE] at hC1)
  have hi:i < L.length:=by omega
  have hlen:(L.take i).length=i:=by rw [List.length_take]; omega
  have ha:L.take (i + 1)=L.take i++[L.getD i []]:=by
   rw [List.take_succ,List.getElem?_eq_getElem hi,List.getD_eq_getElem?_getD,List.getElem?_eq_getElem hi]; rfl
  have htk:List.take i (bq (ll (L.take i)))=bq (ll (L.take i)):=List.take_of_length_le (by rw [aJ,aC,hlen]; exact Nat.le_refl _)
  refine qh (qa (qm (ql ?_)))
  refine ab fun K hK=>aa ae ?_
  simp only [an,fl,gp,ak,simprocAttr,aC,b8 hi,htk,aJ,hlen]
  refine ao ?_ (au (qB (L.getD i []) (hw _ (by rw [List.getD_eq_getElem?_getD,List.getElem?_eq_getElem hi]; exact List.getElem_mem hi))) rfl rfl rfl (by simp only [ay,Nat.reduceLT]) (by repeat (first|exact trivial|constructor)) (aa ae ?_))
  ·(first|exact trivial|omega|exact ⟨by omega,by omega⟩|trace_state)
  simp only [an,fl,gp,ak,simprocAttr,aC,b8 hi,htk,aJ,hlen]
  refine af ?_ (hK _ ?_)<;>clear hK K
  ·exact ⟨Nat.le_refl _,by omega,by omega⟩
  refine qd (qa ?_)
  refine ab fun K hK=>aa ae ?_
  simp only [an,fl,gp,ak,simprocAttr]
  refine af ?_ (hK _ ?_)<;>clear hK K
  ·first|exact trivial|omega|(simp only [ah] at *; omega)|(simp [ah] at *; omega)|simp_all
  refine qa ?_
  refine ⟨i + 1,[1],by omega,by omega,rfl,by decide,⟨⟨?_,?_⟩,trivial⟩,rfl,rfl,rfl,rfl,rfl,rfl,trivial⟩
  ·rw [ha,iW]; exact (List.take_of_length_le (Nat.le_refl _)).symm
  exact jY _ _
 (try simp only [aE] at hC1)
 refine qj (qc (qc (qf (qa (qm ?_)))))
 have hie:i=L.length:=by omega
 rw [hie,List.take_length]
 refine mI 3 0 (jL L) (by rw [aC]; rfl) rfl ?_
 refine ab fun K hK=>aa ae ?_
 simp only [an,fl,gp,ak,simprocAttr]
 refine af trivial (hK _ ?_)<;>clear hK K
 refine qa (qk ?_)
 simp only [Tryd.results9,bT,an,fl,gp,ak,simprocAttr]
 all_goals ((first|exact rfl|exact ⟨rfl,rfl⟩|exact ⟨rfl,rfl,rfl⟩|exact ⟨trivial,rfl⟩|exact ⟨Nat.le_refl _,rfl⟩|trivial|(simp; done)))
theorem xZ:∀ {L:List (List Int)} {w:List Int},w∈L→w.length≤kU L
 | v :: L,w,h=>by
  have e:kU (v :: L)=v.length + kU L:=by simp [kU]
  rcases List.mem_cons.1 h with rfl | h
  ·omega
  have:=xZ h; omega
def cI (x:Int):Int:=if 0 < x then 2 * x - 2 else -2 * x - 1
def iT (n:Nat):List Int:=(List.range (2 * n + 1)).map fun (i:Nat)=>(i:Int) - n
def rg (r:List Int) (x:Int):Int:=r.getD (cI x).toNat (-1)
def qS (r:List Int) (aI:Nat) (S:List E3) (x:Int):List E3:=if x=0 then S else if rg r x < 0 then S else ((rg r x).toNat,-x,aI) :: (aI,x,(rg r x).toNat) :: S
def eP (n:Nat) (N:List (List Int)) (U:List Int) (t:E3) (S:List E3):List (List Int) × List Int × List E3:=
 let a:=dO U t.1
 let U1:=aT U t.1
 let b:=dO U1 t.2.2
 let U2:=aT U1 t.2.2
 let u:=rg (N.getD a []) t.2.1
 if u < 0 then (N.set a ((N.getD a []).set (cI t.2.1).toNat (b:Nat)),U2,S) else
 let r:=dO U2 u.toNat
 let U3:=aT U2 u.toNat
 if r=b then (N,U3,S) else
 (N,U3.set (max r b) (min r b:Nat),(iT n).foldl (qS (N.getD (max r b) []) (min r b)) S)
def jW (n:Nat):Nat→List (List Int)→List Int→List E3→Option (List (List Int) × List Int)
 | _,N,U,[]=>some (N,U)
 | 0,_,_,_ :: _=>none
 | k + 1,N,U,t :: S=>jW n k (eP n N U t S).1 (eP n N U t S).2.1 (eP n N U t S).2.2
structure WR (n:Nat) (N:List (List Int)) (U:List Int):Prop where
 len:U.length=N.length
 fo:Fo U
 row:∀ r∈N,r.length=2 * n∧∀ d∈r,-1≤d∧d < N.length
def Ct (n k:Nat) (S:List E3):Prop:=∀ t∈S,t.1 < k∧t.2.2 < k∧t.2.1 ≠ 0∧-(n:Int)≤t.2.1∧t.2.1≤n
theorem jy {n:Nat} {x:Int} (h0:x ≠ 0) (h1 : -(n:Int)≤x) (h2:x≤n):0≤cI x∧(cI x).toNat < 2 * n:=by
 unfold cI
 split<;>omega
theorem Bz {x y:Int} (hx:x ≠ 0) (hy:y ≠ 0) (h:(cI x).toNat=(cI y).toNat):x=y:=by
 unfold cI at h
 split at h<;>split at h<;>omega
theorem WR.at {n:Nat} {N:List (List Int)} {U:List Int} (w:WR n N U) {a:Nat} (ha:a < N.length):(N.getD a []).length=2 * n∧∀ d∈N.getD a [],-1≤d∧d < N.length:=by
 rw [List.getD_eq_getElem?_getD,List.getElem?_eq_getElem ha]
 exact w.row _ (List.getElem_mem ha)
theorem WR.rg {n:Nat} {N:List (List Int)} {U:List Int} (w:WR n N U) {a:Nat} (ha:a < N.length) {x:Int} (h:¬ rg (N.getD a []) x < 0):(Go.Proofs.YtpobnnfkeekiaaaDoor.Pr.rg (N.getD a []) x).toNat < N.length:=by
 obtain ⟨h1,h2⟩:=w.at ha
 unfold Go.Proofs.YtpobnnfkeekiaaaDoor.Pr.rg at h ⊢
 by_cases hl:(cI x).toNat < (N.getD a []).length
 ·have:=h2 _ (List.getElem_mem hl)
  have e:(N.getD a []).getD (cI x).toNat (-1)=(N.getD a [])[(cI x).toNat]:=by rw [List.getD_eq_getElem?_getD,List.getElem?_eq_getElem hl]; rfl
  rw [e] at h ⊢
  omega
 exfalso
 apply h
 rw [List.getD_eq_getElem?_getD,List.getElem?_eq_none (by omega)]
 decide
theorem WR.up {n:Nat} {N:List (List Int)} {U U' : List Int} (w:WR n N U) (hl:U'.length=U.length) (hf:Fo U'):WR n N U':=⟨hl.trans w.len,hf,w.row⟩
theorem WR.of {n:Nat} {N:List (List Int)} {U:List Int} (w:WR n N U) {v:Nat} (hv:v < N.length):WR n N (aT U v):=w.up (xN _ _) (GI w.fo (by rw [w.len]; exact hv))
theorem WR.put {n:Nat} {N:List (List Int)} {U:List Int} (w:WR n N U) {a b:Nat} {i:Nat} (ha:a < N.length) (hb:b < N.length):WR n (N.set a ((N.getD a []).set i (b:Nat))) U:=by
 refine ⟨by rw [List.length_set]; exact w.len,w.fo,fun r hr=>?_⟩
 rw [List.length_set]
 rcases List.mem_or_eq_of_mem_set hr with h | h
 ·exact w.row r h
 subst h
 obtain ⟨h1,h2⟩:=w.at ha
 refine ⟨by rw [List.length_set]; exact h1,fun d hd=>?_⟩
 rcases List.mem_or_eq_of_mem_set hd with h | h
 ·exact h2 d h
 subst h; omega
theorem sH (r:List Int) (aI:Nat):∀ (L:List Int) (S:List E3),(L.foldl (qS r aI) S).length≤S.length + 2 * L.length
 | [],S=>by simp
 | x :: L,S=>by
  rw [List.foldl_cons]
  have:=sH r aI L (qS r aI S x)
  have h2:(qS r aI S x).length≤S.length + 2:=by unfold qS; split<;>(try split)<;>simp
  simp only [List.length_cons]
  omega
theorem Bl {n k:Nat} {r:List Int} {aI:Nat} (hk:aI < k) (hr:∀ x,¬ rg r x < 0→(rg r x).toNat < k):∀ (L:List Int) (S:List E3),(∀ x∈L,-(n:Int)≤x∧x≤n)→Ct n k S→Ct n k (L.foldl (qS r aI) S)
 | [],S,_,h=>h
 | x :: L,S,hL,h=>by
  rw [List.foldl_cons]
  refine Bl hk hr L _ (fun y hy=>hL y (by simp [hy])) ?_
  obtain ⟨x1,x2⟩:=hL x (by simp)
  unfold qS
  split
  ·exact h
  split
  ·exact h
  rename_i h0 h1
  have:=hr x h1
  intro t ht
  simp only [List.mem_cons] at ht
  rcases ht with rfl | rfl | ht
  ·exact ⟨this,hk,by simp only; omega,by simp only; omega,by simp only; omega⟩
  ·exact ⟨hk,this,by simp only; omega,by simp only; omega,by simp only; omega⟩
  exact h t ht
theorem gU {n:Nat} {x:Int} : x∈iT n↔-(n:Int)≤x∧x≤n:=by
 unfold iT
 rw [List.mem_map]
 constructor
 ·rintro ⟨i,hi,rfl⟩
  have:=List.mem_range.1 hi
  omega
 intro h
 exact ⟨(x + n).toNat,List.mem_range.2 (by omega),by omega⟩
theorem mb (n:Nat):(iT n).length=2 * n + 1:=by simp [iT]
def mS (n k:Nat) (U:List Int) (S:List E3):Nat:=nr U k * (4 * n + 3) + S.length
theorem tw {n:Nat} {N:List (List Int)} {U:List Int} {t:E3} {S:List E3} (w:WR n N U) (h:Ct n N.length (t :: S)) :
  WR n (eP n N U t S).1 (eP n N U t S).2.1∧(eP n N U t S).1.length=N.length∧Ct n N.length (eP n N U t S).2.2∧mS n N.length (eP n N U t S).2.1 (eP n N U t S).2.2 < mS n N.length U (t :: S):=by
 obtain ⟨e0,x,e2⟩:=t
 obtain ⟨h0,h2,hx⟩:=h (e0,x,e2) (by simp)
 simp only at h0 h2 hx
 have hS:Ct n N.length S:=fun t ht=>h t (by simp [ht])
 have w1:=w.of h0
 have w2:=w1.of h2
 have r1:∀ u,u < N.length→rV (aT U e0) u=rV U u:=fun u hu=>lK w.fo (by rw [w.len]; exact h0) (by rw [w.len]; exact hu)
 have r2:∀ u,u < N.length→rV (aT (aT U e0) e2) u=rV U u:=fun u hu=>by
  rw [lK w1.fo (by rw [w1.len]; exact h2) (by rw [w1.len]; exact hu)]; exact r1 u hu
 have ha:dO U e0 < N.length:=by
  rw [bS w.fo (by rw [w.len]; exact h0)]
  have:=dP w.fo e0 (by rw [w.len]; exact h0)
  omega
 have hb:dO (aT U e0) e2 < N.length:=by
  rw [bS w1.fo (by rw [w1.len]; exact h2)]
  have:=dP w1.fo e2 (by rw [w1.len]; exact h2)
  omega
 unfold eP
 simp only
 split
 ·exact ⟨w2.put ha hb,by rw [List.length_set],hS,by
   unfold mS
   rw [sb r2]
   simp only [List.length_cons]
   omega⟩
 rename_i hu
 have hul:=w.rg ha hu
 generalize (rg (N.getD (dO U e0) []) x).toNat=u at hul
 have w3:=w2.of hul
 have r3:∀ v,v < N.length→rV (aT (aT (aT U e0) e2) u) v=rV U v:=fun v hv=>by
  rw [lK w2.fo (by rw [w2.len]; exact hul) (by rw [w2.len]; exact hv)]; exact r2 v hv
 have hr:dO (aT (aT U e0) e2) u=rV U u:=by
  rw [bS w2.fo (by rw [w2.len]; exact hul)]; exact r2 u hul
 have hbq:dO (aT U e0) e2=rV U e2:=by
  rw [bS w1.fo (by rw [w1.len]; exact h2)]; exact r1 e2 h2
 split
 ·exact ⟨w3,rfl,hS,by
   unfold mS
   rw [sb r3]
   simp only [List.length_cons]
   omega⟩
 rename_i hne
 rw [hr,hbq] at hne ⊢
 have i1:=dt w.fo (v:=u) (by rw [w.len]; exact hul)
 have i2:=dt w.fo (v:=e2) (by rw [w.len]; exact h2)
 have l1:=dP w.fo u (by rw [w.len]; exact hul)
 have l2:=dP w.fo e2 (by rw [w.len]; exact h2)
 obtain ⟨aI,hkd⟩:∃ k,min (rV U u) (rV U e2)=k:=⟨_,rfl⟩
 obtain ⟨gone,hgd⟩:∃ k,max (rV U u) (rV U e2)=k:=⟨_,rfl⟩
 rw [hkd,hgd]
 have hlt:aI < gone:=by omega
 have hgl:gone < N.length:=by omega
 have hkr:rV U aI=aI:=by rcases (show aI=rV U u∨aI=rV U e2 by omega) with h | h<;>rw [h]<;>assumption
 have hgr:rV U gone=gone:=by rcases (show gone=rV U u∨gone=rV U e2 by omega) with h | h<;>rw [h]<;>assumption
 have k3:rV (aT (aT (aT U e0) e2) u) aI=aI:=by rw [r3 aI (by omega)]; exact hkr
 have g3:rV (aT (aT (aT U e0) e2) u) gone=gone:=by rw [r3 gone hgl]; exact hgr
 have kk:(aT (aT (aT U e0) e2) u).getD aI 0=(aI:Int):=by have:=kz w3.fo aI (by rw [w3.len]; omega); rwa [k3] at this
 have gg:(aT (aT (aT U e0) e2) u).getD gone 0=(gone:Int):=by have:=kz w3.fo gone (by rw [w3.len]; omega); rwa [g3] at this
 have hj:=yx w3.fo (by rw [w3.len]; exact hgl) hlt kk gg
 refine ⟨w3.up (by rw [List.length_set]) (w3.fo.join (by rw [w3.len]; exact hgl) hlt),rfl,Bl (by omega) (fun x hx=>w.rg hgl hx) _ _ (fun x hx=>gU.1 hx) hS,?_⟩
 have h1:=CN (k:=N.length) hlt hgl g3 k3 fun v hv=>hj v (by rw [w3.len]; exact hv)
 rw [sb r3] at h1
 have h2:=sH (N.getD gone []) aI (iT n) S
 rw [mb] at h2
 unfold mS
 simp only [List.length_cons]
 have h3:(nr ((aT (aT (aT U e0) e2) u).set gone (aI:Int)) N.length + 1) * (4 * n + 3)≤nr U N.length * (4 * n + 3):=Nat.mul_le_mul_right _ h1
 rw [Nat.add_mul] at h3
 omega
theorem uO {n:Nat} : ∀ (k:Nat) (N:List (List Int)) (U:List Int) (S:List E3),WR n N U→Ct n N.length S→mS n N.length U S≤k→∃ N' U',jW n k N U S=some (N',U')∧WR n N' U'∧N'.length=N.length
 | k,N,U,[],w,_,_=>by cases k<;>exact ⟨N,U,rfl,w,rfl⟩
 | 0,N,U,t :: S,w,_,h=>by unfold mS at h; simp at h
 | k + 1,N,U,t :: S,w,hS,h=>by
  obtain ⟨h1,h2,h3,h4⟩:=tw w hS
  obtain ⟨N',U',g1,g2,g3⟩:=uO k _ _ _ h1 (by rw [h2]; exact h3) (by rw [h2]; omega)
  exact ⟨N',U',g1,g2,by rw [g3,h2]⟩
def cJ (n:Nat) (N:List (List Int)) (U:List Int) (a:Nat) (x:Int) (b:Nat):List (List Int) × List Int:=
 (jW n (N.length * (4 * n + 3) + 2) N U [(b,-x,a),(a,x,b)]).getD (N,U)
theorem nu {n:Nat} {N:List (List Int)} {U:List Int} {a b:Nat} {x:Int} (w:WR n N U) (ha:a < N.length) (hb:b < N.length) (hx:x ≠ 0∧-(n:Int)≤x∧x≤n) :
  jW n (N.length * (4 * n + 3) + 2) N U [(b,-x,a),(a,x,b)]=some (cJ n N U a x b)∧WR n (cJ n N U a x b).1 (cJ n N U a x b).2∧(cJ n N U a x b).1.length=N.length:=by
 obtain ⟨N',U',h1,h2,h3⟩:=uO (n:=n) (N.length * (4 * n + 3) + 2) N U [(b,-x,a),(a,x,b)] w (fun t ht=>by
  simp only [List.mem_cons,List.not_mem_nil,or_false] at ht
  rcases ht with rfl | rfl
  ·exact ⟨hb,ha,by simp only; omega,by simp only; omega,by simp only; omega⟩
  ·exact ⟨ha,hb,hx⟩) (by
  unfold mS
  have:=Nat.mul_le_mul_right (4 * n + 3) (EJ U N.length)
  simp only [List.length_cons,List.length_nil]
  omega)
 have e:cJ n N U a x b=(N',U'):=by unfold cJ; rw [h1]; rfl
 rw [e]
 exact ⟨h1,h2,h3⟩
def wy (L:List (List (List Int))):List PV:=L.map fun l=>.list (ll l)
theorem b9 (L:List (List (List Int))):(wy L).length=L.length:=by simp [wy]
theorem gb {L:List (List (List Int))} {i:Nat} (h:i < L.length):(wy L).getD i default = .list (ll (L.getD i [])):=by
 simp [wy,List.getD,List.getElem?_eq_getElem h]
theorem ez (c a:Int):ct Tryd.prog 21 [.int .i64 c,.int .i64 a] (fl (c,a)):=by
 refine aV ae Tryd.func21 rfl (by kernel_rfl) (by rw [Tryd.ntmps21]; exact Nat.le_add_left 2 _) ?_; rw [Tryd.ntmps21]
 refine qm ?_
 refine ab fun K hK=>aa ae ?_
 simp only [an,fl,gp,ak,simprocAttr]
 refine af ?_ (hK _ ?_)<;>clear hK K
 ·first|exact trivial|omega|(simp only [ah] at *; omega)|(simp [ah] at *; omega)|simp_all
 refine qa (qm ?_)
 refine ab fun K hK=>aa ae ?_
 simp only [an,fl,gp,ak,simprocAttr]
 refine af ?_ (hK _ ?_)<;>clear hK K
 ·first|exact trivial|omega|(simp only [ah] at *; omega)|(simp [ah] at *; omega)|simp_all
 refine qa (qk ?_)
 simp only [Tryd.results21,bT,an,fl,gp,ak,simprocAttr]
 all_goals ((first|exact rfl|exact ⟨rfl,rfl⟩|exact ⟨rfl,rfl,rfl⟩|exact ⟨trivial,rfl⟩|exact ⟨Nat.le_refl _,rfl⟩|trivial|(simp; done)))
def js (n x:Int):Bool:=decide (x > n) || decide (x < -n)
def gD (n:Int) (l:List (List Int)):Bool:=l.any fun w=>w.any (js n)
def vW (n:Int):List (List (List Int))→Int→Int × Int
 | [],_=>(0,0)
 | l :: r,k=>if (qQ l).1 ≠ 0 then qQ l else if gD n l then (4,k + 1) else vW n r (k + 1)
def fH (n:Int) (L:List (List (List Int))):Int × Int:=if n < 1∨6 < n then (3,1) else vW n L 0
theorem sE {α:Type} {p:α→Bool} {L:List α} {i:Nat} {d:α} (h:i < L.length):(L.drop i).any p=(p (L.getD i d) || (L.drop (i + 1)).any p):=by
 rw [List.drop_eq_getElem_cons h,List.any_cons,List.getD_eq_getElem?_getD,List.getElem?_eq_getElem h]; rfl
theorem jx {α:Type} {p:α→Bool} {L:List α} {i:Nat} {d:α} (h:i < L.length) (hp:p (L.getD i d)=true):L.any p=true:=by
 refine List.any_eq_true.2 ⟨L.getD i d,?_,hp⟩
 rw [List.getD_eq_getElem?_getD,List.getElem?_eq_getElem h]; exact List.getElem_mem h
theorem fa {α:Type} {L:List α} {i:Nat} {d:α} (h:i < L.length):L.getD i d∈L:=by
 rw [List.getD_eq_getElem?_getD,List.getElem?_eq_getElem h]; exact List.getElem_mem h
def ID (L:List (List (List Int))):Prop:=L.length≤1000000000∧∀ l∈L,l.length≤1000000000∧∀ w∈l,w.length≤1000000000
set_option maxHeartbeats 4000000 in
theorem AO (n:Int) (L:List (List (List Int))) (hL:ID L):ct Tryd.prog 20 [.int .i64 n,.list (wy L)] (fl (fH n L)):=by
 refine aV ae Tryd.func20 rfl (by kernel_rfl) (by rw [Tryd.ntmps20]; exact Nat.le_add_left 2 _) ?_; rw [Tryd.ntmps20]
 have hLl:=hL.1
 refine qm ?_
 refine ab fun K hK=>aa ae ?_
 simp only [an,fl,gp,ak,simprocAttr]
 refine af ?_ (hK _ ?_)<;>clear hK K
 ·first|exact trivial|omega|(simp only [ah] at *; omega)|(simp [ah] at *; omega)|simp_all
 refine qa (qm (qm ?_))
 by_cases g1a:n < 1
 ·refine ab fun K hK=>aa ae ?_
  simp only [an,fl,gp,ak,simprocAttr,decide_eq_true g1a]
  refine af trivial (hK _ ?_)<;>clear hK K
  refine qa ?_
  refine aq rfl (fun hC1=>?_) (fun hC1=>?_)
  ·have hr:fH n L=(3,1):=by unfold fH; rw [if_pos (by first|exact .inl g1a|omega)]
   refine qm ?_
   refine ab fun K hK=>aa ae ?_
   simp only [an,fl,gp,ak,simprocAttr]
   refine ao trivial (au (ez 3 1) rfl rfl rfl (by simp only [ay,Nat.reduceLT]) (by repeat (first|exact trivial|constructor)) (aa ae ?_))
   simp only [an,fl,gp,ak,simprocAttr]
   refine af ?_ (hK _ ?_)<;>clear hK K
   ·first|exact trivial|omega|(simp only [ah] at *; omega)|(simp [ah] at *; omega)|simp_all
   refine qa (qk (qb ?_))
   simp only [Tryd.results20,bT,an,fl,gp,ak,simprocAttr]
   all_goals (rw [hr]; exact ⟨rfl,rfl⟩)
  cases hC1
 refine ab fun K hK=>aa ae ?_
 simp only [an,fl,gp,ak,simprocAttr,decide_eq_false g1a]
 refine af trivial (hK _ ?_)<;>clear hK K
 refine qa ?_
 refine aq rfl (fun hC1=>?_) (fun hC1=>?_)
 ·(try simp only [aE] at hC1)
  have hr:fH n L=(3,1):=by unfold fH; rw [if_pos (by first|exact .inl g1a|omega)]
  refine qm ?_
  refine ab fun K hK=>aa ae ?_
  simp only [an,fl,gp,ak,simprocAttr]
  refine ao trivial (au (ez 3 1) rfl rfl rfl (by simp only [ay,Nat.reduceLT]) (by repeat (first|exact trivial|constructor)) (aa ae ?_))
  simp only [an,fl,gp,ak,simprocAttr]
  refine af ?_ (hK _ ?_)<;>clear hK K
  ·first|exact trivial|omega|(simp only [ah] at *; omega)|(simp [ah] at *; omega)|simp_all
  refine qa (qk (qb ?_))
  simp only [Tryd.results20,bT,an,fl,gp,ak,simprocAttr]
  all_goals (rw [hr]; exact ⟨rfl,rfl⟩)
 (try simp only [aE] at hC1)
 have h1:1≤n:=by omega
 have h6:n≤6:=by omega
 have hr:fH n L=vW n L 0:=by unfold fH; rw [if_neg (by omega)]
 refine qh (qa (qm (qm ?_)))
 refine ab fun K hK=>aa ae ?_
 simp only [an,fl,gp,ak,simprocAttr,b9]
 refine af trivial (hK _ ?_)<;>clear hK K
 refine qa (ql ?_)
 refine aD (ι:=Nat) (fun i=>⟨60,[(0,.p (.int .i64 n)),(4,.ptr 0 0),(19,.p (.list (wy L))),(20,.p (.int .i64 L.length)),(21,.p (.int .i64 (i:Nat)))],[.own [.p (.int .i64 0),.p (.int .i64 0)]]⟩) (fun i=>i≤L.length∧fH n L=vW n (L.drop i) i) (fun i=>L.length - i) 0 ⟨Nat.zero_le _,hr⟩ [0] (by simp only [leq,bx,an,fl,gp,ak,simprocAttr]<;>trivial) fun i hq=>?_
 obtain ⟨q1,q2⟩:=hq
 refine qm ?_
 refine ab fun K hK=>aa ae ?_
 simp only [an,fl,gp,ak,simprocAttr]
 refine af trivial (hK _ ?_)<;>clear hK K
 refine qa (qm ?_)
 refine aq rfl (fun hC2=>?_) (fun hC2=>?_)
 ·(try simp only [aE] at hC2)
  have hi:i < L.length:=by omega
  obtain ⟨l,hl⟩:∃ l,L.getD i []=l:=⟨_,rfl⟩
  have hlm:l∈L:=hl ▸ fa hi
  obtain ⟨hl1,hl2⟩:=hL.2 l hlm
  have hdr:L.drop i=l :: L.drop (i + 1):=by
   rw [List.drop_eq_getElem_cons hi,← hl,List.getD_eq_getElem?_getD,List.getElem?_eq_getElem hi]; rfl
  rw [hdr,vW] at q2
  refine qh (qa (qm (ql (qm ?_))))
  refine ab fun K hK=>aa ae ?_
  simp only [an,fl,gp,ak,simprocAttr,b9,gb hi,hl]
  refine af ?_ (hK _ ?_)<;>clear hK K
  ·omega
  refine qa (qm (qm ?_))
  refine ab fun K hK=>aa ae ?_
  simp only [an,fl,gp,ak,simprocAttr]
  refine ao trivial (au (AY l hl1 hl2) rfl rfl rfl (by simp only [ay,Nat.reduceLT]) (by repeat (first|exact trivial|constructor)) (aa ae ?_))
  simp only [an,fl,gp,ak,simprocAttr]
  refine af ?_ (hK _ ?_)<;>clear hK K
  ·first|exact trivial|omega|(simp only [ah] at *; omega)|(simp [ah] at *; omega)|simp_all
  refine qa (qm ?_)
  refine ab fun K hK=>aa ae ?_
  simp only [an,fl,gp,ak,simprocAttr]
  refine af ?_ (hK _ ?_)<;>clear hK K
  ·first|exact trivial|omega|(simp only [ah] at *; omega)|(simp [ah] at *; omega)|simp_all
  refine qa ?_
  refine aq rfl (fun hC3=>?_) (fun hC3=>?_)
  ·(try simp only [aE] at hC3)
   have h0:(qQ l).1 ≠ 0:=hC3
   rw [if_pos h0] at q2
   refine qm ?_
   refine ab fun K hK=>aa ae ?_
   simp only [an,fl,gp,ak,simprocAttr]
   refine af ?_ (hK _ ?_)<;>clear hK K
   ·first|exact trivial|omega|(simp only [ah] at *; omega)|(simp [ah] at *; omega)|simp_all
   refine qa (qk (qb (qe (qb (qb (qe (qb ?_)))))))
   simp only [Tryd.results20,bT,an,fl,gp,ak,simprocAttr]
   all_goals (rw [q2]; exact ⟨rfl,rfl⟩)
  (try simp only [aE] at hC3)
  have h0:¬ (qQ l).1 ≠ 0:=fun h=>h hC3
  rw [if_neg h0] at q2
  refine qh (qa (qm ?_))
  refine ab fun K hK=>aa ae ?_
  simp only [an,fl,gp,ak,simprocAttr,aC]
  refine af trivial (hK _ ?_)<;>clear hK K
  refine qa (ql ?_)
  refine aD (ι:=Nat) (fun j=>⟨60,[(0,.p (.int .i64 n)),(4,.ptr 0 0),(5,.p (.int .i64 (i:Nat))),(19,.p (.list (wy L))),(20,.p (.int .i64 L.length)),(21,.p (.int .i64 (i:Nat))),(32,.p (.list (ll l))),(33,.p (.int .i64 l.length)),(34,.p (.int .i64 (j:Nat)))],[.own [.p (.int .i64 0),.p (.int .i64 0)]]⟩) (fun j=>j≤l.length∧gD n l=gD n (l.drop j)) (fun j=>l.length - j) 0 ⟨Nat.zero_le _,rfl⟩ [0] (by simp only [leq,bx,an,fl,gp,ak,simprocAttr]<;>trivial) fun j hq=>?_
  obtain ⟨j1,j2⟩:=hq
  refine qm ?_
  refine ab fun K hK=>aa ae ?_
  simp only [an,fl,gp,ak,simprocAttr]
  refine af trivial (hK _ ?_)<;>clear hK K
  refine qa (qm ?_)
  refine aq rfl (fun hC4=>?_) (fun hC4=>?_)
  ·(try simp only [aE] at hC4)
   have hj:j < l.length:=by omega
   obtain ⟨w,hw⟩:∃ w,l.getD j []=w:=⟨_,rfl⟩
   have hwl:w.length≤1000000000:=hl2 w (hw ▸ fa hj)
   refine qh (qa (qm (ql (qm ?_))))
   refine ab fun K hK=>aa ae ?_
   simp only [an,fl,gp,ak,simprocAttr,aC,b8 hj,hw]
   refine af ?_ (hK _ ?_)<;>clear hK K
   ·omega
   refine qa (qm ?_)
   refine ab fun K hK=>aa ae ?_
   simp only [an,fl,gp,ak,simprocAttr,aw]
   refine af trivial (hK _ ?_)<;>clear hK K
   refine qa (ql ?_)
   refine aD (ι:=Nat) (fun k=>⟨60,[(0,.p (.int .i64 n)),(4,.ptr 0 0),(5,.p (.int .i64 (i:Nat))),(19,.p (.list (wy L))),(20,.p (.int .i64 L.length)),(21,.p (.int .i64 (i:Nat))),(32,.p (.list (ll l))),(33,.p (.int .i64 l.length)),(34,.p (.int .i64 (j:Nat))),(38,.p (.list (il w))),(39,.p (.int .i64 w.length)),(40,.p (.int .i64 (k:Nat)))],[.own [.p (.int .i64 0),.p (.int .i64 0)]]⟩) (fun k=>k≤w.length∧w.any (js n)=(w.drop k).any (js n)) (fun k=>w.length - k) 0 ⟨Nat.zero_le _,rfl⟩ [0] (by simp only [leq,bx,an,fl,gp,ak,simprocAttr]<;>trivial) fun k hq=>?_
   obtain ⟨k1,k2⟩:=hq
   refine qm ?_
   refine ab fun K hK=>aa ae ?_
   simp only [an,fl,gp,ak,simprocAttr]
   refine af trivial (hK _ ?_)<;>clear hK K
   refine qa (qm ?_)
   refine aq rfl (fun hC5=>?_) (fun hC5=>?_)
   ·(try simp only [aE] at hC5)
    have hk:k < w.length:=by omega
    obtain ⟨x,hx⟩:∃ x,w.getD k 0=x:=⟨_,rfl⟩
    refine qh (qa (qm (ql (qm ?_))))
    refine ab fun K hK=>aa ae ?_
    simp only [an,fl,gp,ak,simprocAttr,aw,aL hk,hx]
    refine af ?_ (hK _ ?_)<;>clear hK K
    ·omega
    refine qa (qm ?_)
    by_cases g15a:x > n
    ·refine ab fun K hK=>aa ae ?_
     simp only [an,fl,gp,ak,simprocAttr,decide_eq_true g15a]
     refine af ?_ (hK _ ?_)<;>clear hK K
     ·first|trivial|(simp only [ah]; omega)
     refine qa ?_
     refine aq rfl (fun hC6=>?_) (fun hC6=>?_)
     ·have hb:gD n l=true:=by
       refine jx hj (d:=[]) ?_
       rw [hw]
       refine jx hk (d:=0) ?_
       rw [hx]
       unfold js
       simp only [Bool.or_eq_true,decide_eq_true_eq]
       first|exact .inl g15a|omega
      rw [if_pos hb] at q2
      refine qm ?_
      refine ab fun K hK=>aa ae ?_
      simp only [an,fl,gp,ak,simprocAttr]
      refine ao ?_ (au (ez 4 (i + 1)) rfl rfl rfl (by simp only [ay,Nat.reduceLT]) (by repeat (first|exact trivial|constructor)) (aa ae ?_))
      ·first|omega|(simp only [ah]; omega)
      simp only [an,fl,gp,ak,simprocAttr]
      refine af ?_ (hK _ ?_)<;>clear hK K
      ·first|exact trivial|omega|(simp only [ah] at *; omega)|(simp [ah] at *; omega)|simp_all
      refine qa (qk (qe (qb (qb (qe (qe (qb (qb (qe (qe (qb (qb (qe (qb ?_))))))))))))))
      simp only [Tryd.results20,bT,an,fl,gp,ak,simprocAttr]
      all_goals (rw [q2]; exact ⟨rfl,rfl⟩)
     cases hC6
    refine ab fun K hK=>aa ae ?_
    simp only [an,fl,gp,ak,simprocAttr,decide_eq_false g15a]
    refine af ?_ (hK _ ?_)<;>clear hK K
    ·first|trivial|(simp only [ah]; omega)
    refine qa ?_
    refine aq rfl (fun hC6=>?_) (fun hC6=>?_)
    ·(try simp only [aE] at hC6)
     have hb:gD n l=true:=by
      refine jx hj (d:=[]) ?_
      rw [hw]
      refine jx hk (d:=0) ?_
      rw [hx]
      unfold js
      simp only [Bool.or_eq_true,decide_eq_true_eq]
      first|exact .inl g15a|omega
     rw [if_pos hb] at q2
     refine qm ?_
     refine ab fun K hK=>aa ae ?_
     simp only [an,fl,gp,ak,simprocAttr]
     refine ao ?_ (au (ez 4 (i + 1)) rfl rfl rfl (by simp only [ay,Nat.reduceLT]) (by repeat (first|exact trivial|constructor)) (aa ae ?_))
     ·first|omega|(simp only [ah]; omega)
     simp only [an,fl,gp,ak,simprocAttr]
     refine af ?_ (hK _ ?_)<;>clear hK K
     ·first|exact trivial|omega|(simp only [ah] at *; omega)|(simp [ah] at *; omega)|simp_all
     refine qa (qk (qe (qb (qb (qe (qe (qb (qb (qe (qe (qb (qb (qe (qb ?_))))))))))))))
     simp only [Tryd.results20,bT,an,fl,gp,ak,simprocAttr]
     all_goals (rw [q2]; exact ⟨rfl,rfl⟩)
    (try simp only [aE] at hC6)
    have hx1:js n x=false:=by
     unfold js
     simp only [Bool.or_eq_false_iff,decide_eq_false_iff_not]
     omega
    rw [sE hk (d:=0),hx,hx1,Bool.false_or] at k2
    refine qh (qd (qa ?_))
    refine ab fun K hK=>aa ae ?_
    simp only [an,fl,gp,ak,simprocAttr]
    refine af ?_ (hK _ ?_)<;>clear hK K
    ·first|exact trivial|omega|(simp only [ah] at *; omega)|(simp [ah] at *; omega)|simp_all
    refine qa ?_
    refine ⟨k + 1,[0],⟨by omega,k2⟩,by omega,by simp only [leq,bx,an,fl,gp,ak,simprocAttr]<;>first|trivial|trace_state⟩
   (try simp only [aE] at hC5)
   have hkw:w.any (js n)=false:=by rw [k2,List.drop_eq_nil_of_le (by omega)]; rfl
   have j3:gD n l=gD n (l.drop (j + 1)):=by
    rw [j2]
    unfold gD
    rw [sE hj (d:=[]),hw,hkw,Bool.false_or]
   refine qj (qc (qc (qf (qd (qa ?_)))))
   refine ab fun K hK=>aa ae ?_
   simp only [an,fl,gp,ak,simprocAttr]
   refine af ?_ (hK _ ?_)<;>clear hK K
   ·first|exact trivial|omega|(simp only [ah] at *; omega)|(simp [ah] at *; omega)|simp_all
   refine qa ?_
   refine ⟨j + 1,[0],⟨by omega,j3⟩,by omega,by simp only [leq,bx,an,fl,gp,ak,simprocAttr]<;>first|trivial|trace_state⟩
  (try simp only [aE] at hC4)
  have hb:¬ gD n l=true:=by rw [j2,List.drop_eq_nil_of_le (by omega)]; simp [gD]
  rw [if_neg hb] at q2
  refine qj (qc (qc (qf (qd (qa ?_)))))
  refine ab fun K hK=>aa ae ?_
  simp only [an,fl,gp,ak,simprocAttr]
  refine af ?_ (hK _ ?_)<;>clear hK K
  ·first|exact trivial|omega|(simp only [ah] at *; omega)|(simp [ah] at *; omega)|simp_all
  refine qa ?_
  refine ⟨i + 1,[0],⟨by omega,q2⟩,by omega,by simp only [leq,bx,an,fl,gp,ak,simprocAttr]<;>first|trivial|trace_state⟩
 (try simp only [aE] at hC2)
 rw [List.drop_eq_nil_of_le (by omega),vW] at q2
 refine qj (qc (qc (qf (qa (qm ?_)))))
 refine ab fun K hK=>aa ae ?_
 simp only [an,fl,gp,ak,simprocAttr]
 refine af ?_ (hK _ ?_)<;>clear hK K
 ·first|exact trivial|omega|(simp only [ah] at *; omega)|(simp [ah] at *; omega)|simp_all
 refine qa (qk ?_)
 simp only [Tryd.results20,bT,an,fl,gp,ak,simprocAttr]
 all_goals (rw [q2]; exact ⟨rfl,rfl⟩)
end Go.Proofs.YtpobnnfkeekiaaaDoor.Pr
