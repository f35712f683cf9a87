/-
  Texts of this proof, one behind the other: what each says stands at its head. Conditions: none.
-/
import Derived.WalkKit
import Derived.WalkSpells
import Derived.CallsIn
import Derived.OrdersIn
import Derived.TacticsIn
import Derived.RangeFuncIn
import Derived.MapKept
import Derived.WideKeyRuns
set_option linter.all false
namespace Go.Pv
open Go.RowKit
def nu:Nat:=64 * 9223372036854775807
theorem oE {n:Nat} (h:n≤Go.maxLen):n≤nu:=by unfold nu; unfold Go.maxLen at h; omega
inductive PV where
 | int (k:IntKind) (i:Int)
 | bool (b:Bool)
 | str (s:ByteArray)
 | list (l:List PV)
 | nn (l:List PV)
 | nil
 | nz
 | np
 | agg (l:List PV)
 | tup (l:List PV)
 | ptr (l:List PV)
 | fn (f:FuncId) (cap:List PV)
instance:Inhabited PV:=⟨.int .i64 0⟩
def PV.cells:PV→List PV
 | .agg l=>l
 | v=>[v]
def flat:List PV→List PV
 | []=>[]
 | x :: r=>x.cells++flat r
def PV.one:PV→Bool
 | .agg _=>false
 | .tup _=>false
 | _=>true
theorem sP:∀ (l:List PV),(∀ x∈l,x.one=true)→flat l=l
 | [],_=>rfl
 | x :: r,h=>by
  have h1:=h x (by simp)
  have h2:=sP r (fun y hy=>h y (by simp [hy]))
  cases x<;>simp_all [flat,PV.cells,PV.one]
theorem ga (sz:Nat):∀ (l:List PV),(∀ x∈l,x.cells.length=sz)→(flat l).length=l.length * sz
 | [],_=>by simp [flat]
 | x :: r,h=>by
  have h1:=h x (by simp)
  have h2:=ga sz r (fun y hy=>h y (by simp [hy]))
  simp [flat,h1,h2,Nat.add_mul,Nat.add_comm]
theorem jX (sz:Nat):∀ (l:List PV) (i c:Nat) (x:PV),(∀ x∈l,x.cells.length=sz)→l[i]? = some x→c < sz→(flat l)[i * sz + c]? = x.cells[c]?
 | [],i,c,x,_,hx,_=>by simp at hx
 | y :: r,0,c,x,h,hx,hc=>by
  simp at hx; subst hx
  have h1:=h y (by simp)
  simp [flat,List.getElem?_append,h1,hc]
 | y :: r,i + 1,c,x,h,hx,hc=>by
  have h1:=h y (by simp)
  have h2:=jX sz r i c x (fun y hy=>h y (by simp [hy])) (by simpa using hx) hc
  have e:(i + 1) * sz + c=sz + (i * sz + c):=by rw [Nat.add_mul]; omega
  simp only [flat]
  rw [e,List.getElem?_append_right (by omega),h1]
  simpa using h2
def dT:Int:=1099511627776
def bH (k:IntKind) (z:Int):Value:=if k = .i8 then .agg #[.int .i64 (z / dT),.int .i64 (z % dT)] else .int k z
theorem ee {k:IntKind} (h:k ≠ .i8) (z:Int):bH k z = .int k z:=if_neg h
theorem fc (z:Int):bH .i8 z = .agg #[.int .i64 (z / dT),.int .i64 (z % dT)]:=if_pos rfl
theorem zR {a b:Int} (h0:0≤b) (h1:b < dT):(a * dT + b) / dT=a:=by
 unfold dT at *; omega
theorem zI {a b:Int} (h0:0≤b) (h1:b < dT):(a * dT + b) % dT=b:=by
 unfold dT at *; omega
theorem Ct {a b:Int} (h0:0≤b) (h1:b < dT):bH .i8 (a * dT + b) = .agg #[.int .i64 a,.int .i64 b]:=by
 rw [fc,zR h0 h1,zI h0 h1]
theorem jd {k:IntKind} {y z:Int} (h:bH k y=bH k z):y=z:=by
 by_cases hk:k = .i8
 ·subst hk
  rw [fc,fc] at h
  injection h with h
  injection h with h
  injection h with h1 h2
  injection h1 with _ h1
  injection h2 with h2 _
  injection h2 with _ h2
  have e1:=Int.mul_ediv_add_emod y dT
  have e2:=Int.mul_ediv_add_emod z dT
  rw [h1,h2] at e1
  exact e1.symm.trans e2
 rw [ee hk,ee hk] at h
 injection h
def iM (k:IntKind) (z:Int):Value→Bool
 | .int k' y=>decide (k ≠ .i8) && (decide (k' = k) && decide (y=z))
 | .agg xs=>match xs.toList with
  | [.int .i64 a,.int .i64 b]=>decide (k = .i8) && (decide (a=z / dT) && decide (b=z % dT))
  | _=>false
 | _=>false
theorem jI {k:IntKind} {z:Int} {v:Value} : iM k z v=true↔v=bH k z:=by
 by_cases hk:k = .i8
 ·subst hk
  rw [fc]
  cases v with
  | agg xs =>
   obtain ⟨l⟩:=xs
   constructor
   ·intro h
    unfold iM at h
    simp only at h
    split at h
    ·simp at h
     rw [h.1,h.2]
    cases h
   intro h
   rw [h]
   unfold iM
   simp
  | _=>simp [iM]
 rw [ee hk]
 cases v with
 | agg xs =>
  unfold iM
  simp only [hk,decide_false,Bool.false_and]
  split<;>simp
 | _=>simp [iM,hk]
def p4 (k:IntKind) (z:Int):List MapEntry→Option Value
 | []=>none
 | e :: es=>bif iM k z e.key then some e.val else p4 k z es
theorem ie {k:IntKind} {z:Int} {e:MapEntry} (es:List MapEntry) (h:e.key=bH k z):p4 k z (e :: es)=some e.val:=by simp only [p4,jI.2 h,cond_true]
theorem fF {k:IntKind} {z:Int} {e:MapEntry} (es:List MapEntry) (h:e.key ≠ bH k z):p4 k z (e :: es)=p4 k z es:=by
 have:iM k z e.key=false:=by
  cases h' : iM k z e.key with
  | false=>rfl
  | true=>exact absurd (jI.1 h') h
 simp only [p4,this,cond_false]
inductive Reads (ok:Nat→Prop) (w:World):PV→Value→Prop
 | int (k:IntKind) (i:Int):Reads ok w (.int k i) (.int k i)
 | bool (b:Bool):Reads ok w (.bool b) (.bool b)
 | str (s:ByteArray):Reads ok w (.str s) (.string s)
 | nil:Reads ok w .nil (.slice none 0 0)
 | nz (a:Addr) (cap:Nat):Reads ok w .nz (.slice (some a) 0 cap)
 | np:Reads ok w .np (.pointer none)
 | list0 (a:Option Addr) (cap:Nat) (h:a=none→cap=0):Reads ok w (.list []) (.slice a 0 cap)
 | list (l:List PV) (b off cap sz:Nat) (vs:Nat→Value) (hb:ok b) (hsz:∀ x∈l,x.cells.length=sz) (hcap:l.length≤cap)
   (hc:∀ c,c < (flat l).length→w.cell? ⟨b,off + c,none⟩=some (vs c))
   (hr:∀ c (h:c < (flat l).length),Reads ok w (flat l)[c] (vs c)):Reads ok w (.list l) (.slice (some ⟨b,off,none⟩) l.length cap)
 | nn0 (a:Addr):Reads ok w (.nn []) (.slice (some a) 0 0)
 | nn (l:List PV) (b off sz:Nat) (vs:Nat→Value) (hb:ok b) (hsz:∀ x∈l,x.cells.length=sz)
   (hc:∀ c,c < (flat l).length→w.cell? ⟨b,off + c,none⟩=some (vs c))
   (hr:∀ c (h:c < (flat l).length),Reads ok w (flat l)[c] (vs c)):Reads ok w (.nn l) (.slice (some ⟨b,off,none⟩) l.length l.length)
 | agg (l:List PV) (vs:Array Value) (hl:vs.size=l.length) (hr:∀ c (h:c < l.length),Reads ok w l[c] (vs.getD c undef)):Reads ok w (.agg l) (.agg vs)
 | tup (l:List PV) (vs:Array Value) (hl:vs.size=l.length) (hr:∀ c (h:c < l.length),Reads ok w l[c] (vs.getD c undef)):Reads ok w (.tup l) (.tuple vs)
 | ptr (l:List PV) (b off:Nat) (vs:Nat→Value) (hb:ok b)
   (hc:∀ c,c < l.length→w.cell? ⟨b,off + c,none⟩=some (vs c))
   (hr:∀ c (h:c < l.length),Reads ok w l[c] (vs c)):Reads ok w (.ptr l) (.pointer (some ⟨b,off,none⟩))
 | fn (f:FuncId) (l:List PV) (vs:Array Value) (hl:vs.size=l.length) (hr:∀ c (h:c < l.length),Reads ok w l[c] (vs.getD c undef)):Reads ok w (.fn f l) (.func (.func f) #[] vs)
theorem Reads.En {ok ok' : Nat→Prop} {w w' : World} (h1:∀ b,ok b→ok' b) (h2:∀ b o x,ok b→w.cell? ⟨b,o,none⟩=some x→w'.cell? ⟨b,o,none⟩=some x) {p:PV} {v:Value} (h:Reads ok w p v):Reads ok' w' p v:=by
 induction h with
 | int k i=>exact .int k i
 | bool b=>exact .bool b
 | str s=>exact .str s
 | nil=>exact .nil
 | nz a cap=>exact .nz a cap
 | np=>exact .np
 | list0 a cap h=>exact .list0 a cap h
 | list l b off cap sz vs hb hsz hcap hc hr ih=>exact .list l b off cap sz vs (h1 b hb) hsz hcap (fun c hcl=>h2 b _ _ hb (hc c hcl)) ih
 | nn0 a=>exact .nn0 a
 | nn l b off sz vs hb hsz hc hr ih=>exact .nn l b off sz vs (h1 b hb) hsz (fun c hcl=>h2 b _ _ hb (hc c hcl)) ih
 | agg l vs hl hr ih=>exact .agg l vs hl ih
 | tup l vs hl hr ih=>exact .tup l vs hl ih
 | ptr l b off vs hb hc hr ih=>exact .ptr l b off vs (h1 b hb) (fun c hcl=>h2 b _ _ hb (hc c hcl)) ih
 | fn f l vs hl hr ih=>exact .fn f l vs hl ih
theorem Reads.ext {ok ok' : Nat→Prop} {w w' : World} (h1:∀ b,ok b→ok' b) (h2:∀ b,ok b→w'.heap[b]? = w.heap[b]?) {p:PV} {v:Value} (h:Reads ok w p v):Reads ok' w' p v:=
 h.En h1 fun b o x hb hc=>by rw [World.cell?_of_block (w:=w) (h2 b hb)]; exact hc
theorem Reads.mono {ok ok' : Nat→Prop} {w:World} (h1:∀ b,ok b→ok' b) {p:PV} {v:Value} (h:Reads ok w p v):Reads ok' w p v:=
 h.ext h1 (fun _ _=>rfl)
def PV.fU:PV→Bool
 | .int _ _=>true
 | .bool _=>true
 | .str _=>true
 | .nil=>true
 | .agg l=>l.all fun | .int _ _=>true | .bool _=>true | .str _=>true | _=>false
 | .tup l=>l.all fun | .int _ _=>true | .bool _=>true | .str _=>true | .agg l=>l.all (fun | .int _ _=>true | .bool _=>true | .str _=>true | _=>false) | _=>false
 | _=>false
theorem Reads.one {ok:Nat→Prop} {w:World} {p:PV} {v:Value} (h:Reads ok w p v) (h1:p.one=true):v.oneCell' = true∧v.cells = #[v]:=by
 cases h<;>simp_all [PV.one,Value.oneCell',Value.cells]
theorem Reads.rY {ok:Nat→Prop} {w:World} {v:Value} (h:Reads ok w .nil v):Reads ok w (.list []) v:=by
 cases h; exact .list0 none 0 fun _=>rfl
theorem Reads.wJ {ok:Nat→Prop} {w:World} {v:Value} {l:List PV} (h:Reads ok w (.nn l) v):Reads ok w (.list l) v:=by
 cases h with
 | nn0 a=>exact .list0 (some a) 0 fun _=>rfl
 | nn _ b off sz vs hb hsz hc hr=>exact .list l b off l.length sz vs hb hsz (Nat.le_refl _) hc hr
def iK:List PV:=[.int .u8 0,.int .u8 1,.int .u8 56,.int .u8 2,.int .u8 57,.int .u8 49,.int .u8 28,.int .u8 3,.int .u8 61,.int .u8 58,.int .u8 42,.int .u8 50,.int .u8 38,.int .u8 29,.int .u8 17,.int .u8 4,.int .u8 62,.int .u8 47,.int .u8 59,.int .u8 36,.int .u8 45,.int .u8 43,.int .u8 51,.int .u8 22,.int .u8 53,.int .u8 39,.int .u8 33,.int .u8 30,.int .u8 24,.int .u8 18,.int .u8 12,.int .u8 5,.int .u8 63,.int .u8 55,.int .u8 48,.int .u8 27,.int .u8 60,.int .u8 41,.int .u8 37,.int .u8 16,.int .u8 46,.int .u8 35,.int .u8 44,.int .u8 21,.int .u8 52,.int .u8 32,.int .u8 23,.int .u8 11,.int .u8 54,.int .u8 26,.int .u8 40,.int .u8 15,.int .u8 34,.int .u8 20,.int .u8 31,.int .u8 10,.int .u8 25,.int .u8 14,.int .u8 19,.int .u8 9,.int .u8 13,.int .u8 8,.int .u8 7,.int .u8 6]
def gv (g:Nat):Option (List PV):=bif g == 0 then some iK else none
inductive AV where
 | dead
 | p (v:PV)
 | sl (k lo len:Nat)
 | ptr (k i:Nat)
 | agg (l:List AV)
 | tup (l:List AV)
 | mptr (k:Nat)
 | yv (k:Nat) (l:List AV) (vs:Array Value)
 | cl (f:FuncId) (l:List AV)
 | lJ (r:Nat)
 | sls (k lo len sz:Nat) 
instance:Inhabited AV:=⟨.dead⟩
inductive aL where
 | own (c:List AV)
 | fro (c:List PV)
 | dead
 | mp (kk:IntKind) (d:Int→Bool) (v:Int→PV)
 | lp (r:Loop)
 | dx (i j:Nat) 
def aL.Dz:aL→Bool
 | .mp _ _ _=>true
 | .dx _ _=>true
 | .lp _=>true
 | _=>false
abbrev aw:=List aL
structure Loc where
 g:Nat
 o:Nat
 n:Nat
abbrev Map:=Nat→Option Loc
def Ck (m:Map) (k lo len:Nat) (v:Value):Prop:=
 (len=0∧∃ a,v = .slice a 0 0)∨∃ l cap,m k=some l∧v = .slice (some ⟨l.g,l.o + lo,none⟩) len cap∧len≤cap∧l.o + lo + cap≤l.n
def wo (m:Map) (k lo len sz:Nat) (v:Value):Prop:=(len=0∧v = .slice none 0 0)∨∃ l cap,m k=some l∧v = .slice (some ⟨l.g,l.o + lo,none⟩) len cap∧len≤cap∧l.o + lo + cap * sz≤l.n
def wE (m:Map) (k i:Nat) (v:Value):Prop:=∃ l,m k=some l∧v = .pointer (some ⟨l.g,l.o + i,none⟩)
def qR (m:Map) (k:Nat) (v:Value):Prop:=∃ l,m k=some l∧v = .map (some l.g)
def CM (m:Map) (k:Nat) (v:Value):Prop:=∃ l,m k=some l∧v = .func (.yield l.g) #[] #[]
inductive aH (rd:PV→Value→Prop) (m:Map) (H:aw):AV→Value→Prop
 | dead (v:Value):aH rd m H .dead v
 | p (pv:PV) (v:Value) (h:rd pv v):aH rd m H (.p pv) v
 | sl (k lo len:Nat) (v:Value) (hk:k < H.length) (h:Ck m k lo len v):aH rd m H (.sl k lo len) v
 | ptr (k i:Nat) (v:Value) (hk:k < H.length) (h:wE m k i v):aH rd m H (.ptr k i) v
 | agg (l:List AV) (vs:Array Value) (hl:vs.size=l.length) (hr:∀ c (h:c < l.length),aH rd m H l[c] (vs.getD c undef)):aH rd m H (.agg l) (.agg vs)
 | tup (l:List AV) (vs:Array Value) (hl:vs.size=l.length) (hr:∀ c (h:c < l.length),aH rd m H l[c] (vs.getD c undef)):aH rd m H (.tup l) (.tuple vs)
 | mptr (k:Nat) (v:Value) (hk:k < H.length) (h:qR m k v):aH rd m H (.mptr k) v
 | yv (k:Nat) (l:List AV) (vs:Array Value) (v:Value) (hk:k < H.length) (h:CM m k v) (hl:vs.size=l.length) (hr:∀ c (h:c < l.length),aH rd m H l[c] (vs.getD c undef)):aH rd m H (.yv k l vs) v
 | cl (f:FuncId) (l:List AV) (vs:Array Value) (hl:vs.size=l.length) (hr:∀ c (h:c < l.length),aH rd m H l[c] (vs.getD c undef)):aH rd m H (.cl f l) (.func (.func f) #[] vs)
 | lJ (r:Nat):aH rd m H (.lJ r) (.pointer (some ⟨r,0,none⟩))
 | sls (k lo len sz:Nat) (v:Value) (hk:k < H.length) (h:wo m k lo len sz v):aH rd m H (.sls k lo len sz) v
theorem aH.ext {rd rd' : PV→Value→Prop} {m m' : Map} {H H' : aw} (h1:∀ p v,rd p v→rd' p v) (hlen:H.length≤H'.length)
  (h2:∀ k,k < H.length→m' k=m k) {a:AV} {v:Value} (h:aH rd m H a v):aH rd' m' H' a v:=by
 induction h with
 | dead v=>exact .dead v
 | p pv v h=>exact .p pv v (h1 _ _ h)
 | sl k lo len v hk h =>
  refine .sl k lo len v (by omega) ?_
  rcases h with h | ⟨l,cap,h,r⟩
  ·exact .inl h
  exact .inr ⟨l,cap,by rw [h2 k hk]; exact h,r⟩
 | ptr k i v hk h =>
  refine .ptr k i v (by omega) ?_
  obtain ⟨l,h,r⟩:=h
  exact ⟨l,by rw [h2 k hk]; exact h,r⟩
 | agg l vs hl hr ih=>exact .agg l vs hl ih
 | tup l vs hl hr ih=>exact .tup l vs hl ih
 | cl f l vs hl hr ih=>exact .cl f l vs hl ih
 | lJ r=>exact .lJ r
 | sls k lo len sz v hk h =>
  refine .sls k lo len sz v (by omega) ?_
  rcases h with h | ⟨l,cap,h,r⟩
  ·exact .inl h
  exact .inr ⟨l,cap,by rw [h2 k hk]; exact h,r⟩
 | mptr k v hk h =>
  refine .mptr k v (by omega) ?_
  obtain ⟨l,h,r⟩:=h
  exact ⟨l,by rw [h2 k hk]; exact h,r⟩
 | yv k l vs v hk h hl hr ih =>
  refine .yv k l vs v (by omega) ?_ hl ih
  obtain ⟨l,h,r⟩:=h
  exact ⟨l,by rw [h2 k hk]; exact h,r⟩
structure St where
 n:Nat
 sl:List (Nat × AV)
 H:aw
def lk:List (Nat × AV)→Nat→AV
 | [],_=>.dead
 | (i,a) :: r,t=>bif i == t then a else lk r t
def St.get (s:St) (t:Nat):AV:=lk s.sl t
structure Ctx where
 okA:Nat→Prop
 B:Nat→Prop
 w0:World
 dx:Nat→Option Loc
structure Below (B:Nat) (w w' : World):Prop where
 os:w'.os=w.os
 tape:w'.tape=w.tape
 output:w'.output=w.output
 size:w.heap.size≤w'.heap.size
 block:∀ k,k < B→w'.heap[k]? = w.heap[k]?
 dr:w.drawn≤w'.drawn
theorem Below.FT {B:Nat} {w w' : World} (h:Below B w w'):Go.RowKit.Below B w w':=⟨h.os,h.tape,h.output,h.size,h.block⟩
theorem Below.of {B:Nat} {w w' : World} (h:Go.RowKit.Below B w w') (hd:w.drawn≤w'.drawn):Below B w w':=⟨h.os,h.tape,h.output,h.size,h.block,hd⟩
theorem Below.refl (B:Nat) (w:World):Below B w w:=⟨rfl,rfl,rfl,Nat.le_refl _,fun _ _=>rfl,Nat.le_refl _⟩
theorem Below.drew {B:Nat} {a w:World} (h:Below B a w):Below B a w.drew:=.of h.FT.drew (Nat.le_trans h.dr (Nat.le_succ _))
theorem Below.alloc {B:Nat} {a w:World} (h:Below B a w) (hB:B≤w.heap.size) (o:Obj):Below B a (w.alloc o):=.of (h.FT.alloc hB o) h.dr
theorem Below.frame {W w' : World} (h:Below W.heap.size W w') (may:MemPlace→Prop):W.keptBut w' may:=h.FT.frame may
theorem Below.frozen {B:Nat} {w w' : World} (h:Below B w w') {p:Addr} (hp:p.block < B):w'.frozen? p=w.frozen? p:=h.FT.frozen hp
theorem Below.cell {B:Nat} {w w' : World} (h:Below B w w') {p:Addr} (hp:p.block < B):w'.cell? p=w.cell? p:=h.FT.cell hp
theorem Below.same {W w' : World} (h:Below W.heap.size W w') {p:MemPlace} (hp:p.block < W.heap.size):W.sameAt w' p:=h.FT.same hp
structure bZ (B:Nat→Prop) (w w' : World):Prop where
 os:w'.os=w.os
 tape:w'.tape=w.tape
 output:w'.output=w.output
 size:w.heap.size≤w'.heap.size
 block:∀ k,¬ B k→w'.heap[k]? = w.heap[k]?
 dr:w.drawn≤w'.drawn
theorem bZ.refl (B:Nat→Prop) (w:World):bZ B w w:=⟨rfl,rfl,rfl,Nat.le_refl _,fun _ _=>rfl,Nat.le_refl _⟩
theorem bZ.trans {B:Nat→Prop} {a b c:World} (h:bZ B a b) (k:bZ B b c):bZ B a c:=
 ⟨k.os.trans h.os,k.tape.trans h.tape,k.output.trans h.output,Nat.le_trans h.size k.size,fun i hi=>(k.block i hi).trans (h.block i hi),Nat.le_trans h.dr k.dr⟩
theorem Below.Hd {n:Nat} {B:Nat→Prop} {w w' : World} (h:Below n w w') (hB:∀ b,n≤b→B b):bZ B w w':=
 ⟨h.os,h.tape,h.output,h.size,fun k hk=>h.block k (Nat.lt_of_not_le fun hh=>hk (hB k hh)),h.dr⟩
theorem bZ.below {n:Nat} {B:Nat→Prop} {w w' : World} (h:bZ B w w') (hB:∀ b,B b→n≤b):Below n w w':=
 ⟨h.os,h.tape,h.output,h.size,fun k hk=>h.block k fun hb=>by have:=hB k hb; omega,h.dr⟩
def OK (C:Ctx) (m:Map) (H:aw) (w:World) (b:Nat):Prop:=
 (C.okA b∨C.B b)∧b < w.heap.size∧∀ k c l,H[k]? = some (.own c)→m k=some l→l.g ≠ b
def ma (B:Nat→Prop) (rd:PV→Value→Prop) (m:Map) (H:aw) (w:World) (k:Nat) (c:List AV):Prop:=
 (c=[]∧m k=none)∨∃ l cur e,m k=some l∧B l.g∧w.heap[l.g]? = some (.cells cur e (0,0))∧cur.size=l.n∧l.n≤nu∧l.o + c.length≤l.n ∧
  ∀ j (h:j < c.length),aH rd m H c[j] (cur.getD (l.o + j) undef)
def l6 (ok:Nat→Prop) (w:World) (m:Map) (k:Nat) (c:List PV):Prop:=
 (c=[]∧m k=none)∨∃ (l:Loc) (vs:Nat→Value),m k=some l∧ok l.g∧l.o + c.length≤l.n∧∀ j (h:j < c.length),w.cell? ⟨l.g,l.o + j,none⟩=some (vs j)∧Reads ok w c[j] (vs j)
def Hw (kk:IntKind) (clk:Nat) (l:List MapEntry):Prop:=(∀ e∈l,∃ z,e.key=bH kk z)∧(l.map MapEntry.key).Nodup∧(∀ e∈l,e.born < clk)∧(l.map MapEntry.born).Nodup
def vh (B:Nat→Prop) (ok:Nat→Prop) (w:World) (m:Map) (k:Nat) (kk:IntKind) (d:Int→Bool) (v:Int→PV):Prop:=
 ∃ (l:Loc) (ar:Array MapEntry) (clk:Nat) (vs:Int→Value),m k=some l∧B l.g∧w.heap[l.g]? = some (.map ar clk)∧Hw kk clk ar.toList ∧
  (∀ z,d z=false→p4 kk z ar.toList=none)∧(∀ z,d z=true→p4 kk z ar.toList=some (vs z))∧∀ z,d z=true→Reads ok w (v z) (vs z)
def vl (B:Nat→Prop) (w:World) (m:Map) (H:aw):Prop:=
 (∀ (k:Nat) (r:Loop),H[k]? = some (aL.lp r)→∃ l,m k=some l∧B l.g∧w.heap[l.g]? = some (.loop r)) ∧
 ∀ (k k' : Nat) (r r' : Loop) (l l' : Loc),H[k]? = some (aL.lp r)→H[k']? = some (aL.lp r')→m k=some l→m k' = some l'→l.g=l'.g→k=k'
theorem vl.ext {B B' : Nat→Prop} {w w' : World} {m m' : Map} {H H' : aw} (h:vl B w m H) (σ:Nat→Nat) (hH:∀ k r,H'[k]? = some (aL.lp r)→H[σ k]? = some (aL.lp r)∧m' k=m (σ k)) (hσ:∀ k k' r r',H'[k]? = some (aL.lp r)→H'[k']? = some (aL.lp r')→σ k=σ k'→k=k')
  (hw:∀ k r l,H[k]? = some (aL.lp r)→m k=some l→w.heap[l.g]? = some (.loop r)→w'.heap[l.g]? = w.heap[l.g]?) (hB:∀ k r l,H'[k]? = some (aL.lp r)→m' k=some l→B l.g→B' l.g):vl B' w' m' H':=by
 refine ⟨fun k r hk=>?_,fun k k' r r' l l' h1 h2 h3 h4 h5=>?_⟩
 ·obtain ⟨g1,g2⟩:=hH k r hk
  obtain ⟨l,a1,a2,a3⟩:=h.1 _ r g1
  exact ⟨l,g2.trans a1,hB k r l hk (g2.trans a1) a2,(hw _ r l g1 a1 a3).trans a3⟩
 obtain ⟨g1,g2⟩:=hH k r h1
 obtain ⟨g3,g4⟩:=hH k' r' h2
 exact hσ k k' r r' h1 h2 (h.2 _ _ _ _ l l' g1 g3 (g2 ▸ h3) (g4 ▸ h4) h5)
def Hi (dx:Nat→Option Loc) (B:Nat→Prop) (ok:Nat→Prop) (w:World) (m:Map) (H:aw):Prop:=
 (∀ (k:Nat) (kk:IntKind) (d:Int→Bool) (v:Int→PV),H[k]? = some (aL.mp kk d v)→vh B ok w m k kk d v) ∧
 (∀ (k k' : Nat) (kk:IntKind) (d:Int→Bool) (v:Int→PV) (kk' : IntKind) (d' : Int→Bool) (v' : Int→PV) (l l' : Loc),H[k]? = some (aL.mp kk d v)→H[k']? = some (aL.mp kk' d' v')→m k=some l→m k' = some l'→l.g=l'.g→k=k') ∧
 (∀ (k i j:Nat),H[k]? = some (aL.dx i j)→j < H.length∧m j=dx i)∧vl B w m H
theorem vh.ext {B:Nat→Prop} {ok ok' : Nat→Prop} {w w' : World} {m m' : Map} {k:Nat} {kk:IntKind} {d:Int→Bool} {v:Int→PV} (h1:∀ b,ok b→ok' b) (hh:∀ b,ok b→w'.heap[b]? = w.heap[b]?) (hm:m' k=m k)
  (hg:∀ l,m k=some l→w'.heap[l.g]? = w.heap[l.g]?) (h:vh B ok w m k kk d v):vh B ok' w' m' k kk d v:=by
 obtain ⟨l,ar,clk,vs,a1,a2,a3,a4,a5,a6,a7⟩:=h
 exact ⟨l,ar,clk,vs,by rw [hm]; exact a1,a2,by rw [hg l a1]; exact a3,a4,a5,a6,fun z hz=>(a7 z hz).ext h1 hh⟩
def oW (ok:Nat→Prop) (w:World):Prop:=(∀ b,ok b→b < w.heap.size)∧∀ g l,gv g=some l→Reads ok w (.ptr l) (.pointer (some ⟨g,0,none⟩))
def CW (ok:Nat→Prop) (w:World):Prop:=∀ g l,gv g=some l→Reads ok w (.ptr l) (.pointer (some ⟨g,0,none⟩))
theorem CW.ext {ok ok' : Nat→Prop} {w w' : World} (h:CW ok w) (h1:∀ p v,Reads ok w p v→Reads ok' w' p v):CW ok' w':=fun g l hg=>h1 _ _ (h g l hg)
structure Rel (C:Ctx) (m:Map) (s:St) (tmps:Array Value) (w:World):Prop where
 laid:CW (OK C m s.H w) w
 below:bZ C.B C.w0 w
 base:∀ b,w.heap.size≤b→C.B b
 size:tmps.size=s.n
 inj:∀ k k' c c' l l',s.H[k]? = some (.own c)→s.H[k']? = some (.own c')→m k=some l→m k' = some l'→l.g=l'.g→k=k'
 blk:∀ k c,s.H[k]? = some (.own c)→ma C.B (Reads (OK C m s.H w) w) m s.H w k c
 fro:∀ k c,s.H[k]? = some (.fro c)→l6 (OK C m s.H w) w m k c
 slot:∀ t,aH (Reads (OK C m s.H w) w) m s.H (s.get t) (tmps.getD t undef)
 mp:Hi C.dx C.B (OK C m s.H w) w m s.H
theorem ma.ext {B:Nat→Prop} {rd rd' : PV→Value→Prop} {m m' : Map} {H H' : aw} {w w' : World} {k:Nat} {c:List AV} (h1:∀ p v,rd p v→rd' p v) (hlen:H.length≤H'.length)
  (h2:∀ k,k < H.length→m' k=m k) (hm:m' k=m k) (hh:∀ l,m k=some l→w'.heap[l.g]? = w.heap[l.g]?)
  (h:ma B rd m H w k c):ma B rd' m' H' w' k c:=by
 rcases h with ⟨hc,h⟩ | ⟨l,cur,e,h,hB,hg,r1,r2,r3,hj⟩
 ·exact .inl ⟨hc,by rw [hm]; exact h⟩
 exact .inr ⟨l,cur,e,by rw [hm]; exact h,hB,by rw [hh l h]; exact hg,r1,r2,r3,fun j hjl=>(hj j hjl).ext h1 hlen h2⟩
theorem l6.ext {ok ok' : Nat→Prop} {m m' : Map} {w w' : World} {k:Nat} {c:List PV} (h1:∀ b,ok b→ok' b) (hh:∀ b,ok b→w'.heap[b]? = w.heap[b]?) (hm:m' k=m k)
  (h:l6 ok w m k c):l6 ok' w' m' k c:=by
 rcases h with ⟨hc,h⟩ | ⟨l,vs,h,hB,hl,hj⟩
 ·exact .inl ⟨hc,by rw [hm]; exact h⟩
 refine .inr ⟨l,vs,by rw [hm]; exact h,h1 _ hB,hl,fun j hjl=>⟨?_,(hj j hjl).2.ext h1 hh⟩⟩
 rw [World.cell?_of_block (w:=w) (hh l.g hB)]
 exact (hj j hjl).1
theorem Rel.rI {C:Ctx} {m:Map} {s:St} {tmps:Array Value} {w:World} (R:Rel C m s tmps w) {k:Nat} {kk:IntKind} {d:Int→Bool} {v:Int→PV} (h:s.H[k]? = some (.mp kk d v)) {l:Loc} (hl:m k=some l):OK C m s.H w l.g:=by
 obtain ⟨l',ar,clk,vs,a1,a2,a3,_⟩:=R.mp.1 k kk d v h
 rw [hl] at a1; cases a1
 refine ⟨.inr a2,(Array.getElem?_eq_some_iff.1 a3).1,fun j c l2 hj hl2 e=>?_⟩
 rcases R.blk j c hj with ⟨_,hn⟩ | ⟨l3,cur,e3,hl3,_,hg,_⟩
 ·rw [hl2] at hn; cases hn
 rw [hl2] at hl3; cases hl3
 rw [e,a3] at hg; cases hg
theorem Rel.xt {C:Ctx} {m:Map} {s:St} {tmps:Array Value} {w:World} (R:Rel C m s tmps w) {k:Nat} {r:Loop} (h:s.H[k]? = some (.lp r)) {l:Loc} (hl:m k=some l):OK C m s.H w l.g:=by
 obtain ⟨l',a1,a2,a3⟩:=R.mp.2.2.2.1 k r h
 rw [hl] at a1; cases a1
 refine ⟨.inr a2,(Array.getElem?_eq_some_iff.1 a3).1,fun j c l2 hj hl2 e=>?_⟩
 rcases R.blk j c hj with ⟨_,hn⟩ | ⟨l3,cur,e3,hl3,_,hg,_⟩
 ·rw [hl2] at hn; cases hn
 rw [hl2] at hl3; cases hl3
 rw [e,a3] at hg; cases hg
theorem rq {H:aw} {b:aL} (hb:b.Dz=false):∀ (k:Nat) (b' : aL),b'.Dz=true→(H++[b])[k]? = some b'→H[k]? = some b':=fun k b' hs h=>by
 by_cases hk:k < H.length
 ·rwa [List.getElem?_append_left hk] at h
 have hk2:=(List.getElem?_eq_some_iff.1 h).1
 simp at hk2
 have e:k=H.length:=by omega
 subst e
 simp at h
 subst h
 rw [hb] at hs; cases hs
theorem Rel.heap {C:Ctx} {m m' : Map} {s:St} {tmps:Array Value} {w w' : World} {H' : aw} (R:Rel C m s tmps w)
  (hb:bZ C.B w w') (hlen:s.H.length≤H'.length)
  (hlive:∀ k,k < s.H.length→m' k=m k)
  (hok:∀ b,OK C m s.H w b→∀ k c l,H'[k]? = some (.own c)→m' k=some l→l.g ≠ b)
  (hheap:∀ b,OK C m s.H w b→w'.heap[b]? = w.heap[b]?)
  (hinj:∀ k k' c c' l l',H'[k]? = some (.own c)→H'[k']? = some (.own c')→m' k=some l→m' k' = some l'→l.g=l'.g→k=k')
  (hmut:∀ k c,H'[k]? = some (.own c)→ma C.B (Reads (OK C m' H' w') w') m' H' w' k c)
  (hfro:∀ k c,H'[k]? = some (.fro c)→l6 (OK C m' H' w') w' m' k c) (hmp:∀ (k:Nat) (b' : aL),b'.Dz=true→H'[k]? = some b'→s.H[k]? = some b'):Rel C m' { s with H:=H' } tmps w':=by
 have ho:∀ b,OK C m s.H w b→OK C m' H' w' b:=fun b h=>⟨h.1,Nat.lt_of_lt_of_le h.2.1 hb.size,hok b h⟩
 have hkl:∀ {k:Nat} {b:aL},s.H[k]? = some b→k < s.H.length:=fun h=>(List.getElem?_eq_some_iff.1 h).1
 refine ⟨R.laid.ext fun p v h=>h.ext ho hheap,R.below.trans hb,fun b h=>R.base b (Nat.le_trans hb.size h),R.size,hinj,hmut,hfro,fun t=>?_,fun k kk d v h=>?_,fun k k' kk d v kk' d' v' l l' h1 h2 h3 h4 h5=>?_,fun k i j h=>?_,R.mp.2.2.2.ext id (fun k r h=>⟨hmp k _ rfl h,hlive k (hkl (hmp k _ rfl h))⟩) (fun _ _ _ _ _ _ h=>h) (fun k r l h hl _=>hheap _ (R.xt h hl)) fun _ _ _ _ _ h=>h⟩
 ·exact (R.slot t).ext (fun p v h=>h.ext ho hheap) hlen hlive
 ·have h1:=hmp k _ rfl h
  exact (R.mp.1 k kk d v h1).ext ho hheap (hlive k (hkl h1)) fun l hl=>hheap _ (R.rI h1 hl)
 ·have g1:=hmp _ _ rfl h1
  have g2:=hmp _ _ rfl h2
  rw [hlive _ (hkl g1)] at h3
  rw [hlive _ (hkl g2)] at h4
  exact R.mp.2.1 _ _ _ _ _ _ _ _ _ _ g1 g2 h3 h4 h5
 obtain ⟨a1,a2⟩:=R.mp.2.2.1 k i j (hmp k _ rfl h)
 exact ⟨Nat.lt_of_lt_of_le a1 hlen,by rw [hlive j a1]; exact a2⟩
theorem Rel.yw {C:Ctx} {m:Map} {H:aw} {w w' : World} (hb:Below w.heap.size w w') (b:Nat) (h:OK C m H w b):OK C m H w' b:=
 ⟨h.1,Nat.lt_of_lt_of_le h.2.1 hb.size,h.2.2⟩
theorem Rel.later {C:Ctx} {m:Map} {s:St} {tmps:Array Value} {w w' : World} (R:Rel C m s tmps w) (hb:Below w.heap.size w w'):Rel C m s tmps w':=by
 have hh:∀ b,b < w.heap.size→w'.heap[b]? = w.heap[b]?:=fun b h=>hb.block b h
 have h1:∀ b,OK C m s.H w b→OK C m s.H w' b:=Rel.yw hb
 have h2:∀ b,OK C m s.H w b→w'.heap[b]? = w.heap[b]?:=fun b h=>hh b h.2.1
 refine ⟨R.laid.ext fun p v h=>h.ext h1 h2,R.below.trans (hb.Hd R.base),fun b h=>R.base b (Nat.le_trans hb.size h),R.size,R.inj,fun k c h=>?_,fun k c h=>(R.fro k c h).ext h1 h2 rfl,fun t=>?_,fun k kk d v h=>(R.mp.1 k kk d v h).ext h1 h2 rfl fun l hl=>h2 _ (R.rI h hl),R.mp.2.1,R.mp.2.2.1,R.mp.2.2.2.ext id (fun _ _ h=>⟨h,rfl⟩) (fun _ _ _ _ _ _ h=>h) (fun k r l h hl _=>h2 _ (R.xt h hl)) fun _ _ _ _ _ h=>h⟩
 ·refine (R.blk k c h).ext (fun p v h=>h.ext h1 h2) (Nat.le_refl _) (fun k _=>rfl) rfl fun l hl=>?_
  rcases R.blk k c h with ⟨_,hn⟩ | ⟨l',cur,e,hl',_,hg,_⟩
  ·rw [hl] at hn; cases hn
  rw [hl] at hl'; cases hl'
  exact hh _ (Array.getElem?_eq_some_iff.1 hg).1
 exact (R.slot t).ext (fun p v h=>h.ext h1 h2) (Nat.le_refl _) (fun k _=>rfl)
def St.put (s:St) (d:Option Nat) (a:AV):St:=
 match d with
 | none=>s
 | some d=>{ s with sl:=(d,a) :: s.sl }
theorem St.fQ (s:St) (d:Option Nat) (a:AV):(s.put d a).H=s.H:=by cases d<;>rfl
theorem St.jZ (s:St) (d:Option Nat) (a:AV):(s.put d a).n=s.n:=by cases d<;>rfl
theorem Rel.put {C:Ctx} {m:Map} {s:St} {a:Act} {w:World} {d:Option Nat} {v:Value} {x:AV} (R:Rel C m s a.tmps w) (hd:∀ t,d=some t→t < s.n)
  (hv:aH (Reads (OK C m s.H w) w) m s.H x v):Rel C m (s.put d x) (a.put d v).tmps w:=by
 cases d with
 | none=>exact R
 | some d =>
  refine ⟨R.laid,R.below,R.base,by simp [Act.put,St.put,R.size],R.inj,R.blk,R.fro,fun t=>?_,R.mp⟩
  have hs:=R.size
  have hlt:=hd d rfl
  by_cases h:d=t
  ·subst h
   have e:((a.put (some d) v).tmps.getD d undef)=v:=by
    simp [Act.put,Array.getD_eq_getD_getElem?,Array.getElem?_setIfInBounds_self_of_lt (show d < a.tmps.size by omega)]
   rw [e]
   have e2:(s.put (some d) x).get d=x:=by simp [St.put,St.get,lk]
   rw [e2]
   exact hv
  have e:((a.put (some d) v).tmps.getD t undef)=a.tmps.getD t undef:=by
   simp [Act.put,Array.getD_eq_getD_getElem?,Array.getElem?_setIfInBounds_ne h]
  have e2:(s.put (some d) x).get t=s.get t:=by
   simp [St.put,St.get,lk,show (d == t)=false by simpa using h]
  rw [e,e2]
  exact R.slot t
def cv:Value→AV
 | .int k i=>.p (.int k i)
 | .bool b=>.p (.bool b)
 | .string s=>.p (.str s)
 | .slice none 0 0=>.p .nil
 | .pointer none=>.p .np
 | _=>.dead
def Hj (g:Nat):AV:=match gv g with | some l=>.p (.ptr l) | none=>.dead
theorem Rel.DL {C:Ctx} {m:Map} {s:St} {tmps:Array Value} {w:World} (R:Rel C m s tmps w) {g:Nat} {l:List PV} (h:gv g=some l):Reads (OK C m s.H w) w (.ptr l) (.pointer (some ⟨g,0,none⟩)):=
 R.laid g l h
theorem Rel.yN {C:Ctx} {m:Map} {s:St} {tmps:Array Value} {w:World} (R:Rel C m s tmps w):oW (OK C m s.H w) w:=⟨fun b h=>h.2.1,fun g l h=>R.DL h⟩
theorem Rel.E4 {C:Ctx} {m:Map} {s:St} {tmps:Array Value} {w:World} (R:Rel C m s tmps w):oW (fun b=>b < w.heap.size) w:=⟨fun b h=>h,fun g l h=>(R.DL h).mono fun b hb=>hb.2.1⟩
def St.ev (s:St):Operand→AV
 | .tmp t=>s.get t
 | .const v=>cv v
 | .func f=>.p (.fn f [])
 | .global g=>Hj g
theorem oU {C:Ctx} {m:Map} {H:aw} {w:World} (v:Value):aH (Reads (OK C m H w) w) m H (cv v) v:=by
 unfold cv
 split
 ·exact .p _ _ (.int _ _)
 ·exact .p _ _ (.bool _)
 ·exact .p _ _ (.str _)
 ·exact .p _ _ .nil
 ·exact .p _ _ .np
 exact .dead _
theorem Rel.ev {C:Ctx} {m:Map} {s:St} {a:Act} {w:World} (R:Rel C m s a.tmps w) (x:Operand):aH (Reads (OK C m s.H w) w) m s.H (s.ev x) (a.eval x):=by
 cases x with
 | tmp t=>exact R.slot t
 | const v=>exact oU v
 | global g =>
  show aH _ m s.H (Hj g) (.pointer (some ⟨g,0,none⟩))
  unfold Hj
  cases h:gv g with
  | none=>exact .dead _
  | some l=>exact .p _ _ (R.DL h)
 | func f=>exact .p _ _ (.fn f [] #[] rfl (by intro c h; simp at h))
inductive TK where
 | other
 | bad
 | int (k:IntKind)
 | bool
 | str
 | slice (e:TypeId)
 | struct (fs:List (Nat × TypeId × Nat))
 | array (n:Nat) (e:TypeId)
 | map (k e:TypeId) (z:Option Value)
structure TI where
 kind:TK
 size:Nat
 bytes:Nat
 zero:List Value
 eq2:Bool
def kS (P:Program) (t:TypeId):Bool:=
 match P.underlying t with
 | some (.int _)=>true
 | _=>false
def Ay (P:Program) (t:TypeId) (d:TypeDesc):Bool:=
 match d with
 | .struct fs =>
  match fs.toList with
  | [f,g]=>f.name != "_" && g.name != "_" && f.offset == 0 && g.offset == 1 && kS P f.type && kS P g.type && !P.stoodInHeld t && !P.eqGuardType P.depth t
  | _=>false
 | _=>false
def bq (P : Program) (t : TypeId) : Option TI :=
  match P.info? t, P.underlying t with
  | some i, some d =>
    match i.zero with
    | some z => some { kind := (match d with
        | .int k => .int k
        | .bool => .bool
        | .string => .str
        | .slice e => .slice e
        | .struct fs => bif fs.toList.all (fun f => (P.info? f.type).isSome) then .struct (fs.toList.map fun f => (f.offset, f.type, P.cellsOf f.type)) else .bad
        | .array n e => .array n e
        | .map k e => .map k e ((P.info? e).bind fun i => i.zero)
        | _ => .other), size := i.size, bytes := i.bytes, zero := z.cells.toList, eq2 := Ay P t d }
    | none => none
  | _, _ => none
structure OV where
 vc:Prop
 av:AV
 H:aw
def ah (x:Int):Prop:=-9223372036854775808≤x∧x≤9223372036854775807
def arith (f:Int→Int→Int) (k:IntKind) (a b:Int):Prop × PV:=
 match k with
 | .i64=>(ah (f a b),.int .i64 (f a b))
 | .u64=>(True,.int .u64 (IntKind.u64.wrap (f a b)))
 | k=>(True,.int k (k.wrap (f a b)))
def mQ (f:(n:Nat)→BitVec n→BitVec n→BitVec n) (k:IntKind) (a b:Int):PV:=
 .int k (k.wrap (f k.bits (BitVec.ofInt k.bits a) (BitVec.ofInt k.bits b)).toNat)
def bx (op:BinOp) (k:IntKind) (a b:Int):Prop × PV:=
 match op with
 | .add=>arith (· + ·) k a b
 | .sub=>arith (· - ·) k a b
 | .mul=>arith (· * ·) k a b
 | .quo=>(b ≠ 0∧(arith Int.tdiv k a b).1,(arith Int.tdiv k a b).2)
 | .rem=>(b ≠ 0,.int k (a.tmod b))
 | .and=>(True,mQ (fun _ x y=>x &&& y) k a b)
 | .or=>(True,mQ (fun _ x y=>x ||| y) k a b)
 | .xor=>(True,mQ (fun _ x y=>x ^^^ y) k a b)
 | .andNot=>(True,mQ (fun _ x y=>x &&& ~~~y) k a b)
 | .shl=>(0≤b,.int k (k.wrap (a * 2 ^ (min b.toNat k.bits))))
 | .shr=>(0≤b,.int k (a.fdiv (2 ^ (min b.toNat k.bits))))
 | .eql=>(True,.bool (a == b))
 | .neq=>(True,.bool (a != b))
 | .lss=>(True,.bool (decide (a < b)))
 | .leq=>(True,.bool (decide (a≤b)))
 | .gtr=>(True,.bool (decide (a > b)))
 | .geq=>(True,.bool (decide (a ≥ b)))
def dZ (T:TypeId→Option TI) (op:BinOp) (t:TypeId) (H:aw):AV→AV→Option OV
 | .p (.int k a),.p (.int k' b) =>
  match op with
  | .shl=>some ⟨(bx .shl k a b).1,.p (bx .shl k a b).2,H⟩
  | .shr=>some ⟨(bx .shr k a b).1,.p (bx .shr k a b).2,H⟩
  | op=>some ⟨k=k'∧(bx op k a b).1,.p (bx op k a b).2,H⟩
 | .p (.bool a),.p (.bool b) =>
  match op,(T t).map TI.kind with
  | .eql,some .bool=>some ⟨True,.p (.bool (a == b)),H⟩
  | .neq,some .bool=>some ⟨True,.p (.bool (a != b)),H⟩
  | _,_=>none
 | .p (.str a),.p (.str b) =>
  match op with
  | .eql=>some ⟨True,.p (.bool (a == b)),H⟩
  | .neq=>some ⟨True,.p (.bool (a != b)),H⟩
  | _=>none
 | .p (.agg [.int .i64 a,.int .i64 b]),.p (.agg [.int .i64 c,.int .i64 d]) =>
  match op,(T t).map TI.eq2 with
  | .eql,some true=>some ⟨True,.p (.bool (a == c && b == d)),H⟩
  | .neq,some true=>some ⟨True,.p (.bool (!(a == c && b == d))),H⟩
  | _,_=>none
 | .p (.list l),.p .nil =>
  match op,(T t).map TI.kind with
  | .eql,some (.slice _)=>some ⟨l ≠ [],.p (.bool false),H⟩
  | .neq,some (.slice _)=>some ⟨l ≠ [],.p (.bool true),H⟩
  | _,_=>none
 | .p (.nn _),.p .nil =>
  match op,(T t).map TI.kind with
  | .eql,some (.slice _)=>some ⟨True,.p (.bool false),H⟩
  | .neq,some (.slice _)=>some ⟨True,.p (.bool true),H⟩
  | _,_=>none
 | .p .nz,.p .nil =>
  match op,(T t).map TI.kind with
  | .eql,some (.slice _)=>some ⟨True,.p (.bool false),H⟩
  | .neq,some (.slice _)=>some ⟨True,.p (.bool true),H⟩
  | _,_=>none
 | .p .nil,.p .nil =>
  match op,(T t).map TI.kind with
  | .eql,some (.slice _)=>some ⟨True,.p (.bool true),H⟩
  | .neq,some (.slice _)=>some ⟨True,.p (.bool false),H⟩
  | _,_=>none
 | _,_=>none
def yb (op:UnOp) (H:aw):AV→Option OV
 | .p (.int k a) =>
  match op with
  | .neg=>some ⟨(arith (· - ·) k 0 a).1,.p (arith (· - ·) k 0 a).2,H⟩
  | .xor=>some ⟨True,.p (mQ (fun _ x y=>x ^^^ y) k (if k.signed then -1 else k.max) a),H⟩
  | _=>none
 | .p (.bool a) =>
  match op with
  | .not=>some ⟨True,.p (.bool (!a)),H⟩
  | _=>none
 | _=>none
def lr (a b:AV) (H:aw):AV→Option OV
 | .p (.bool true)=>some ⟨True,a,H⟩
 | .p (.bool false)=>some ⟨True,b,H⟩
 | _=>none
def mD (T:TypeId→Option TI) (src dst:TypeId) (H:aw):AV→Option OV
 | .p (.int _ a) =>
  match (T src).map TI.kind,(T dst).map TI.kind with
  | some (.int _),some (.int k)=>some ⟨True,.p (.int k (k.wrap a)),H⟩
  | _,_=>none
 | _=>none
def AV.cells:AV→List AV
 | .p (.agg l)=>l.map .p
 | .agg l=>l
 | v=>[v]
def eL:List AV→Option (List PV)
 | []=>some []
 | .p v :: r=>(eL r).map (v :: ·)
 | _ :: _=>none
def oz (l:List AV):AV:=
 match eL l with
 | some ps=>.p (.agg ps)
 | none=>.agg l
def aq:aw→Nat→aL
 | [],_=>.dead
 | b :: _,0=>b
 | _ :: r,k + 1=>aq r k
def aE:aw→Nat→aL→aw
 | [],_,_=>[]
 | _ :: r,0,b=>b :: r
 | x :: r,k + 1,b=>x :: aE r k b
def da:TK→Bool
 | .bad=>true
 | .struct _=>true
 | .array _ _=>true
 | _=>false
def iN (ti:TI) (H:aw):AV→Option OV
 | .ptr k i =>
  match aq H k with
  | .own c=>bif da ti.kind then some ⟨i + ti.size≤c.length,oz ((c.drop i).take ti.size),H⟩ else some ⟨i < c.length,c.getD i (.p default),H⟩
  | .fro c=>bif da ti.kind then some ⟨i + ti.size≤c.length,.p (.agg ((c.drop i).take ti.size)),H⟩ else some ⟨i < c.length,.p (c.getD i default),H⟩
  | .dead=>none
  | .mp _ _ _=>none
  | .dx _ _=>none
  | .lp _=>none
 | .p (.ptr c)=>bif da ti.kind then some ⟨ti.size≤c.length,.p (.agg (c.take ti.size)),H⟩ else some ⟨0 < c.length,.p (c.headD default),H⟩
 | _=>none
def bp:AV→Bool
 | .p v=>v.one
 | .sl _ _ _=>true
 | .ptr _ _=>true
 | .mptr _=>true
 | .yv _ _ _=>true
 | .cl _ _=>true
 | .sls _ _ _ _=>true
 | _=>false
def iy (c:List AV) (i:Nat):List AV→List AV
 | [x]=>c.set i x
 | xs=>c.take i++xs++c.drop (i + xs.length)
def j8 (ti:TI) (H:aw) (v:AV):AV→Option OV
 | .ptr k i =>
  match aq H k with
  | .own c=>some ⟨v.cells.length=ti.size∧v.cells.all bp=true∧i + v.cells.length≤c.length,.dead,aE H k (.own (iy c i v.cells))⟩
  | _=>none
 | _=>none
def dV (ti:TI) (f:Nat) (H:aw) (x:AV):Option OV:=
 match ti.kind with
 | .struct fs =>
  match fs[f]? with
  | some (off,_,sz) =>
   match x with
   | .ptr k i=>some ⟨sz ≠ 0,.ptr k (i + off),H⟩
   | .p (.ptr c)=>some ⟨sz ≠ 0∧off≤c.length,.p (.ptr (c.drop off)),H⟩
   | _=>none
  | none=>none
 | _=>none
def kE (T:TypeId→Option TI) (ti:TI) (f:Nat) (H:aw) (x:AV):Option OV:=
 match ti.kind with
 | .struct fs =>
  match fs[f]? with
  | some (off,t,_) =>
   match T t with
   | some tf=>bif da tf.kind then some ⟨off + tf.size≤x.cells.length,oz ((x.cells.drop off).take tf.size),H⟩ else some ⟨off < x.cells.length,x.cells.getD off .dead,H⟩
   | none=>none
  | none=>none
 | _=>none
def AV.isAgg:AV→Bool
 | .p (.agg _)=>true
 | .agg _=>true
 | _=>false
def du (T:TypeId→Option TI) (ti:TI) (H:aw) (x:AV):AV→Option OV
 | .p (.int _ i) =>
  match ti.kind with
  | .slice e =>
   match T e with
   | some te =>
    match x with
    | .sl k lo len=>some ⟨te.size=1∧0≤i∧i < (len:Int),.ptr k (lo + i.toNat),H⟩
    | .p (.list l)=>some ⟨0≤i∧i < (l.length:Int)∧(l.getD i.toNat default).cells.length=te.size,.p (.ptr (l.getD i.toNat default).cells),H⟩
    | .p (.nn l)=>some ⟨0≤i∧i < (l.length:Int)∧(l.getD i.toNat default).cells.length=te.size,.p (.ptr (l.getD i.toNat default).cells),H⟩
    | _=>none
   | none=>none
  | .array n e =>
   match T e with
   | some te =>
    match x with
    | .ptr k j=>some ⟨0≤i∧i < (n:Int),.ptr k (j + i.toNat * te.size),H⟩
    | .p (.ptr c)=>some ⟨0≤i∧i < (n:Int)∧i.toNat * te.size≤c.length,.p (.ptr (c.drop (i.toNat * te.size))),H⟩
    | _=>none
   | none=>none
  | _=>none
 | _=>none
def rM:AV→Option Nat
 | .sl _ _ len=>some len
 | .p (.list l)=>some l.length
 | .p (.nn l)=>some l.length
 | .p .nil=>some 0
 | .p .nz=>some 0
 | _=>none
def tC (ti:TI) (H:aw) (x:AV):Option OV:=
 match ti.kind with
 | .slice _ =>
  match rM x with
  | some n=>some ⟨True,.p (.int .i64 (n:Int)),H⟩
  | none=>none
 | .str =>
  match x with
  | .p (.str s)=>some ⟨True,.p (.int .i64 (s.size:Int)),H⟩
  | _=>none
 | _=>none
def dU (d:Int):Option AV→Option Int
 | none=>some d
 | some (.p (.int _ i))=>some i
 | some _=>none
def ky (T:TypeId→Option TI) (ti:TI) (H:aw) (x:AV) (lo hi:Option AV):Option OV:=
 match ti.kind with
 | .slice e =>
  match T e with
  | some te =>
   match x with
   | .sl k l len =>
    match dU 0 lo,dU len hi with
    | some a,some b=>some ⟨te.size=1∧0≤a∧a≤b∧b≤(len:Int),.sl k (l + a.toNat) (b.toNat - a.toNat),H⟩
    | _,_=>none
   | .p (.list l) =>
    match dU 0 lo,dU l.length hi with
    | some a,some b=>some ⟨0≤a∧a≤b∧b≤(l.length:Int)∧l.all (fun x=>x.cells.length == te.size)=true,.p (.list ((l.drop a.toNat).take (b.toNat - a.toNat))),H⟩
    | _,_=>none
   | .p (.nn l) =>
    match dU 0 lo,hi with
    | some a,none=>some ⟨0≤a∧a≤(l.length:Int)∧l.all (fun x=>x.cells.length == te.size)=true,.p (.nn (l.drop a.toNat)),H⟩
    | some a,some (.p (.int _ b))=>some ⟨0≤a∧a≤b∧b≤(l.length:Int)∧l.all (fun x=>x.cells.length == te.size)=true,.p (.list ((l.drop a.toNat).take (b.toNat - a.toNat))),H⟩
    | _,_=>none
   | _=>none
  | none=>none
 | _=>none
def gH (ti:TI) (H:aw):OV:=⟨ti.zero.length≤1000000,.ptr H.length 0,H++[.own (ti.zero.map cv)]⟩
def uu (H:aw) (x:AV):OV:=⟨x.cells.all bp=true∧x.cells.length≤1000000,.ptr H.length 0,H++[.own x.cells]⟩
def fV (T:TypeId→Option TI) (ti:TI) (H:aw) (n c:AV):Option OV:=
 match ti.kind,n,c with
 | .slice e,.p (.int _ n),.p (.int _ c) =>
  match T e with
  | some te =>
   match te.zero with
   | [z]=>some ⟨te.size=1∧0≤n∧n≤c∧c * te.bytes≤140737488355328∧c≤9223372036854775807,.sl H.length 0 n.toNat,H++[.own (List.replicate n.toNat (cv z))]⟩
   | _=>none
  | none=>none
 | _,_,_=>none
def cY (H:aw):AV→Option (Prop × List AV)
 | .sl k lo len =>
  match aq H k with
  | .own c=>some (lo + len≤c.length,(c.drop lo).take len)
  | .fro c=>some (lo + len≤c.length,((c.drop lo).take len).map .p)
  | .dead=>none
  | .mp _ _ _=>none
  | .dx _ _=>none
  | .lp _=>none
 | .p (.list l)=>some (l.all PV.one=true,l.map .p)
 | .p (.nn l)=>some (l.all PV.one=true,l.map .p)
 | .p .nil=>some (True,[])
 | _=>none
def gC (T:TypeId→Option TI) (ti:TI) (H:aw) (s x:AV):Option OV:=
 match ti.kind with
 | .slice e =>
  match T e with
  | some te =>
   match cY H x with
   | some (vx,xs) =>
    match s with
    | .sl k lo len =>
     match aq H k with
     | .own c=>some ⟨(te.size=1∧te.zero.length=1)∧vx∧xs.all bp=true∧((c.drop lo).take len).all bp=true∧lo + len≤c.length∧(len + xs.length) * te.bytes≤140737488355328∧len + xs.length≤9223372036854775807,.sl H.length 0 (len + xs.length),
       aE H k .dead++[.own ((c.drop lo).take len++xs)]⟩
     | _=>none
    | .p .nil=>some ⟨(te.size=1∧te.zero.length=1)∧vx∧xs.all bp=true∧xs.length * te.bytes≤140737488355328∧xs.length≤9223372036854775807,.sl H.length 0 xs.length,H++[.own xs]⟩
    | .p (.nn l)=>some ⟨(te.size=1∧te.zero.length=1)∧vx∧xs.all bp=true∧l.all PV.one=true∧0 < xs.length∧(l.length + xs.length) * te.bytes≤140737488355328∧l.length + xs.length≤9223372036854775807,.sl H.length 0 (l.length + xs.length),H++[.own (l.map .p++xs)]⟩
    | _=>none
   | none=>none
  | none=>none
 | _=>none
def mC (place:Nat→Option (Nat × Nat)) (c:List AV):List (Nat × AV)→Option (Prop × List AV)
 | []=>some (True,c)
 | (i,v) :: r =>
  match place i with
  | some (off,sz) =>
   match mC place (iy c off v.cells) r with
   | some (p,c')=>some ((v.cells.length=sz∧off + sz≤c.length∧v.cells.all bp=true)∧p,c')
   | none=>none
  | none=>none
def kf (T:TypeId→Option TI) (ti:TI) (H:aw) (parts:List (Nat × AV)):Option OV:=
 match ti.kind with
 | .struct fs =>
  match mC (fun i=>(fs[i]?).map fun f=>(f.1,f.2.2)) (ti.zero.map cv) parts with
  | some (p,c)=>some ⟨p,oz c,H⟩
  | none=>none
 | .array _ e =>
  match T e with
  | some te =>
   match mC (fun i=>some (i * te.size,te.size)) (ti.zero.map cv) parts with
   | some (p,c)=>some ⟨p,oz c,H⟩
   | none=>none
  | none=>none
 | _=>none
def ji (sz:Nat):Nat→List (Nat × AV)→Option (Prop × List PV)
 | _,[]=>some (True,[])
 | n,(i,.p v) :: r =>
  match ji sz (n + 1) r with
  | some (p,l)=>some ((i=n∧v.cells.length=sz∧v.cells.all PV.one=true)∧p,v :: l)
  | none=>none
 | _,_=>none
def dt (T:TypeId→Option TI) (ti:TI) (H:aw) (n:Nat) (parts:List (Nat × AV)):Option OV:=
 match ti.kind with
 | .slice e =>
  match T e with
  | some te =>
   match ji te.size 0 parts with
   | some (p,l)=>some ⟨p∧l.length=n∧n * te.size≤16777216∧te.zero.length=te.size,.p (.nn l),H⟩
   | none=>none
  | none=>none
 | _=>none
def er (i:Nat) (H:aw):AV→Option OV
 | .p (.tup l)=>some ⟨i < l.length,.p (l.getD i default),H⟩
 | .tup l=>some ⟨i < l.length,l.getD i .dead,H⟩
 | _=>none
def uy (H:aw):AV→Option (Prop × PV)
 | .ptr k i =>
  match aq H k with
  | .fro c=>some (i≤c.length,.ptr (c.drop i))
  | _=>none
 | .p v=>some (True,v)
 | _=>none
def jo (H:aw):List AV→Option (Prop × List PV)
 | []=>some (True,[])
 | x :: r =>
  match uy H x,jo H r with
  | some (p,v),some (q,l)=>some (p∧q,v :: l)
  | _,_=>none
def eH (f:FuncId) (H:aw) (caps:List AV):Option OV:=
 match jo H caps with
 | some (p,l)=>some ⟨p,.p (.fn f l),H⟩
 | none=>none
def fA (f:Int→Int→Int) (H:aw):List AV→Option OV
 | [.p (.int .i64 a),.p (.int .i64 b)]=>some ⟨True,.p (.int .i64 (f a b)),H⟩
 | _=>none
def cH (T:TypeId→Option TI) (b:Builtin) (ts:List TypeId) (H:aw) (args:List AV):Option OV:=
 match b,args,ts with
 | .len,[x],[t] =>
  match T t with
  | some ti=>tC ti H x
  | none=>none
 | .append,[s,x],[t,t'] =>
  match T t with
  | some ti=>if t=t' then gC T ti H s x else none
  | none=>none
 | .min,l,_=>fA (fun a b=>if b < a then b else a) H l
 | .max,l,_=>fA (fun a b=>if b > a then b else a) H l
 | _,_,_=>none
def lv (T:TypeId→Option TI) (ti:TI) (H:aw):Option OV:=
 match ti.kind with
 | .map k _ _ =>
  match (T k).map TI.kind with
  | some (.int kk)=>if kk = .i8 then none else some ⟨True,.mptr H.length,H++[.mp kk (fun _=>false) (fun _=>default)]⟩
  | some (.array _ _)=>some ⟨True,.mptr H.length,H++[.mp .i8 (fun _=>false) (fun _=>default)]⟩
  | _=>none
 | _=>none
def xj (T:TypeId→Option TI) (k:TypeId):AV→Option (Prop × IntKind × Int)
 | .p (.int kk' z) =>
  match (T k).map TI.kind with
  | some (.int kk0)=>if kk0 = .i8 then none else some (kk0=kk',kk0,z)
  | _=>none
 | .p (.agg [.int .i64 a,.int .i64 b]) =>
  match (T k).map TI.kind with
  | some (.array n e) =>
   match T e with
   | some te=>some (n=2∧te.kind = .int .i64∧te.size=1∧0≤b∧b < 1099511627776,.i8,a * 1099511627776 + b)
   | none=>none
  | _=>none
 | _=>none
def ik (T:TypeId→Option TI) (ti:TI) (H:aw) (x key:AV) (y:AV):Option OV:=
 match ti.kind with
 | .map k _ _ =>
  match xj T k key with
  | some (vc,kk0,z) =>
   match x,y with
   | .mptr j,.p pv =>
    match aq H j with
    | .mp kk d v=>some ⟨kk0=kk∧vc,.dead,aE H j (.mp kk (fun u=>u == z || d u) (fun u=>bif u == z then pv else v u))⟩
    | _=>none
   | _,_=>none
  | _=>none
 | _=>none
def fC (T:TypeId→Option TI) (ti:TI) (ok:Bool) (H:aw) (x key:AV):Option OV:=
 match ti.kind with
 | .map k _ (some zv) =>
  match xj T k key with
  | some (vc,kk0,z) =>
   match x with
   | .mptr j =>
    match aq H j,cv zv with
    | .mp kk d v,.p zp=>some ⟨kk0=kk∧vc,bif ok then .p (.tup [bif d z then v z else zp,.bool (d z)]) else .p (bif d z then v z else zp),H⟩
    | _,_=>none
   | _=>none
  | _=>none
 | _=>none
def sf (H:aw):AV→Option OV
 | .ptr k i=>some ⟨True,.ptr k i,H⟩
 | .p (.ptr c)=>some ⟨True,.p (.ptr c),H⟩
 | _=>none
def Aj (s:ByteArray) (i:Nat):Int:=((s.data.toList.getD i 0).toNat:Int)
def kb (ti:TI) (H:aw) (x:AV):AV→Option OV
 | .p (.int _ i) =>
  match ti.kind with
  | .str =>
   match x with
   | .p (.str s)=>some ⟨0≤i∧i < (s.size:Int),.p (.int .u8 (Aj s i.toNat)),H⟩
   | _=>none
  | _=>none
 | _=>none
def bW (T:TypeId→Option TI) (s:St):Op→Option OV
 | .move x=>some ⟨True,s.ev x,s.H⟩
 | .assign x=>some ⟨True,s.ev x,s.H⟩
 | .pick c a b=>lr (s.ev a) (s.ev b) s.H (s.ev c)
 | .binOp op t x y _=>dZ T op t s.H (s.ev x) (s.ev y)
 | .unOp op _ x=>yb op s.H (s.ev x)
 | .convert src dst x=>mD T src dst s.H (s.ev x)
 | .load t x=>match T t with | some ti=>iN ti s.H (s.ev x) | none=>none
 | .store t x v=>match T t with | some ti=>j8 ti s.H (s.ev v) (s.ev x) | none=>none
 | .fieldAddr t x f=>match T t with | some ti=>dV ti f s.H (s.ev x) | none=>none
 | .field t x f=>match T t with | some ti=>bif (s.ev x).isAgg then kE T ti f s.H (s.ev x) else none | none=>none
 | .indexAddr t x i=>match T t with | some ti=>du T ti s.H (s.ev x) (s.ev i) | none=>none
 | .slice t x lo hi none=>match T t with | some ti=>ky T ti s.H (s.ev x) (lo.map s.ev) (hi.map s.ev) | none=>none
 | .alloc t=>match T t with | some ti=>some (gH ti s.H) | none=>none
 | .box _ x=>some (uu s.H (s.ev x))
 | .makeSlice t n c=>match T t with | some ti=>fV T ti s.H (s.ev n) (s.ev c) | none=>none
 | .build t parts=>match T t with | some ti=>kf T ti s.H (parts.toList.map fun p=>(p.1,s.ev p.2)) | none=>none
 | .buildSlice t n parts=>match T t with | some ti=>dt T ti s.H n (parts.toList.map fun p=>(p.1,s.ev p.2)) | none=>none
 | .extract x i=>er i s.H (s.ev x)
 | .makeFunc (.func f) first caps=>bif first.isEmpty then eH f s.H (caps.toList.map s.ev) else none
 | .call { callee:=.builtin b,args,argTypes }=>cH T b argTypes.toList s.H (args.toList.map s.ev)
 | .makeMap t none=>match T t with | some ti=>lv T ti s.H | none=>none
 | .mapUpdate t x k v=>match T t with | some ti=>ik T ti s.H (s.ev x) (s.ev k) (s.ev v) | none=>none
 | .lookup t x k ok=>match T t with | some ti=>fC T ti ok s.H (s.ev x) (s.ev k) | none=>none
 | .nilCheck x=>sf s.H (s.ev x)
 | .index t x i=>match T t with | some ti=>kb ti s.H (s.ev x) (s.ev i) | none=>none
 | _=>none
theorem aH.aQ {rd:PV→Value→Prop} {m:Map} {H:aw} {pv:PV} {v:Value} (h:aH rd m H (.p pv) v):rd pv v:=by cases h; assumption
theorem Reads.dz {ok:Nat→Prop} {w:World} {k:IntKind} {i:Int} {v:Value} (h:Reads ok w (.int k i) v):v = .int k i:=by cases h; rfl
theorem Reads.fa {ok:Nat→Prop} {w:World} {b:Bool} {v:Value} (h:Reads ok w (.bool b) v):v = .bool b:=by cases h; rfl
theorem Reads.nK {ok:Nat→Prop} {w:World} {b:ByteArray} {v:Value} (h:Reads ok w (.str b) v):v = .string b:=by cases h; rfl
theorem Reads.eP {ok:Nat→Prop} {w:World} {v:Value} (h:Reads ok w .nil v):v = .slice none 0 0:=by cases h; rfl
theorem Reads.zE {ok:Nat→Prop} {w:World} {v:Value} (h:Reads ok w .nz v):∃ a cap,v = .slice (some a) 0 cap:=by cases h; exact ⟨_,_,rfl⟩
theorem Reads.zD {ok:Nat→Prop} {w:World} {l:List PV} {ad:Option Addr} {n cap:Nat} (h:Reads ok w (.list l) (.slice ad n cap)) (hn:ad=none):cap=0:=by
 subst hn
 cases h with
 | list0 _ _ h=>exact h rfl
theorem Reads.oJ {ok:Nat→Prop} {w:World} {a b:PV} {v:Value} (h:Reads ok w (.agg [a,b]) v):∃ x y,v = .agg #[x,y]∧Reads ok w a x∧Reads ok w b y:=by
 cases h with
 | agg _ vs hl hr =>
  obtain ⟨vs⟩:=vs
  match vs,hl with
  | [x,y],_=>exact ⟨x,y,rfl,hr 0 (by simp),hr 1 (by simp)⟩
theorem Reads.tJ {ok:Nat→Prop} {w:World} {l:List PV} {v:Value} (h:Reads ok w (.list l) v):∃ a cap,v = .slice a l.length cap∧(l ≠ []→∃ b,a=some b)∧l.length≤cap:=by
 cases h with
 | list0 a cap h=>exact ⟨a,cap,rfl,by simp,by simp⟩
 | list _ b off cap sz vs hb hsz hcap hc hr=>exact ⟨_,cap,rfl,fun _=>⟨_,rfl⟩,hcap⟩
theorem Reads.yo {ok:Nat→Prop} {w:World} {l:List PV} {v:Value} (h:Reads ok w (.nn l) v):∃ a cap,v = .slice (some a) l.length cap∧l.length≤cap:=by
 cases h with
 | nn0 a=>exact ⟨a,0,rfl,by simp⟩
 | nn _ b off sz vs hb hsz hc hr=>exact ⟨_,_,rfl,Nat.le_refl _⟩
def Yields (P:Program) (o:Oper) (a:Act) (w:World) (v:Value) (w' : World):Prop:=
 (execOp a.eval o).run P w = .ok (.value v) w'∨((execOp a.eval o).run P w = .ok .skip w'∧v=undef)
def Al (P:Program) (o:Oper) (s:St) (av:AV) (H' : aw):Prop:=
 ∀ C m (a:Act) w,Rel C m s a.tmps w→∃ v w' m',Yields P o a w v w'∧Rel C m' { s with H:=H' } a.tmps w'∧aH (Reads (OK C m' H' w') w') m' H' av v
theorem aZ {P:Program} {t:TypeId} {ti:TI} (h:bq P t=some ti):∃ i d z,P.info? t=some i∧P.underlying t=some d∧i.zero=some z∧i.size=ti.size∧i.bytes=ti.bytes ∧
  z.cells.toList=ti.zero∧ti.kind=(match d with
    | .int k=>.int k
    | .bool=>.bool
    | .string=>.str
    | .slice e=>.slice e
    | .struct fs=>bif fs.toList.all (fun f=>(P.info? f.type).isSome) then .struct (fs.toList.map fun f=>(f.offset,f.type,P.cellsOf f.type)) else .bad
    | .array n e=>.array n e
    | .map k e=>.map k e ((P.info? e).bind fun i=>i.zero)
    | _=>.other)∧ti.eq2=Ay P t d:=by
 unfold bq at h
 split at h
 ·rename_i i d hi hd
  split at h
  ·rename_i z hz
   simp only [Option.some.injEq] at h
   subst h
   exact ⟨i,d,z,hi,hd,hz,rfl,rfl,rfl,rfl,rfl⟩
  cases h
 cases h
theorem me {α:Type} {x y z:α} (h:x ≠ y) (h' : x ≠ z) (b:Bool):x ≠ (bif b then y else z):=by cases b<;>assumption
theorem cT {P:Program} {t:TypeId} {ti:TI} {e:TypeId} (h:bq P t=some ti) (hk:ti.kind = .slice e):P.underlying t=some (.slice e):=by
 obtain ⟨i,d,z,h1,h2,h3,h4,h5,h6,h7,h8⟩:=aZ h
 rw [hk] at h7
 rw [h2]
 cases d<;>simp only [reduceCtorEq,TK.slice.injEq] at h7
 ·rw [h7]
 exact absurd h7 (me (by simp) (by simp) _)
theorem qN {P:Program} {t:TypeId} {ti:TI} {k:IntKind} (h:bq P t=some ti) (hk:ti.kind = .int k):P.underlying t=some (.int k):=by
 obtain ⟨i,d,z,h1,h2,h3,h4,h5,h6,h7,h8⟩:=aZ h
 rw [hk] at h7
 rw [h2]
 cases d<;>simp only [reduceCtorEq,TK.int.injEq] at h7
 ·rw [h7]
 exact absurd h7 (me (by simp) (by simp) _)
theorem Bm {P:Program} {t:TypeId} {ti:TI} (h:bq P t=some ti) (hk:ti.kind = .bool):P.underlying t=some .bool:=by
 obtain ⟨i,d,z,h1,h2,h3,h4,h5,h6,h7,h8⟩:=aZ h
 rw [hk] at h7
 rw [h2]
 cases d<;>simp only [reduceCtorEq] at h7
 ·rfl
 exact absurd h7 (me (by simp) (by simp) _)
theorem A4 {P:Program} {t:TypeId} {ti:TI} (h:bq P t=some ti) (hk:ti.kind = .str):P.underlying t=some .string:=by
 obtain ⟨i,d,z,h1,h2,h3,h4,h5,h6,h7,h8⟩:=aZ h
 rw [hk] at h7
 rw [h2]
 cases d<;>simp only [reduceCtorEq] at h7
 ·rfl
 exact absurd h7 (me (by simp) (by simp) _)
theorem lW {P:Program} {t:TypeId} {ti:TI} {l:List (Nat × TypeId × Nat)} (h:bq P t=some ti) (hk:ti.kind = .struct l) :
  ∃ fs,P.underlying t=some (.struct fs)∧l=(fs.toList.map fun f=>(f.offset,f.type,P.cellsOf f.type))∧∀ f∈fs.toList,(P.info? f.type).isSome=true:=by
 obtain ⟨i,d,z,h1,h2,h3,h4,h5,h6,h7,h8⟩:=aZ h
 rw [hk] at h7
 cases d<;>simp only [reduceCtorEq] at h7
 rename_i fs
 by_cases hb:(fs.toList.all fun f=>(P.info? f.type).isSome)=true
 ·have h7' : TK.struct l=bif (fs.toList.all fun f=>(P.info? f.type).isSome) then TK.struct (fs.toList.map fun f=>(f.offset,f.type,P.cellsOf f.type)) else TK.bad:=h7
  rw [hb] at h7'
  simp only [cond_true,TK.struct.injEq] at h7'
  exact ⟨_,h2,h7',fun f hf=>(List.all_eq_true.1 hb) f hf⟩
 have h7' : TK.struct l=bif (fs.toList.all fun f=>(P.info? f.type).isSome) then TK.struct (fs.toList.map fun f=>(f.offset,f.type,P.cellsOf f.type)) else TK.bad:=h7
 rw [Bool.not_eq_true] at hb
 rw [hb] at h7'
 simp at h7'
theorem oH {P:Program} {t:TypeId} {ti:TI} {n:Nat} {e:TypeId} (h:bq P t=some ti) (hk:ti.kind = .array n e):P.underlying t=some (.array n e):=by
 obtain ⟨i,d,z,h1,h2,h3,h4,h5,h6,h7,h8⟩:=aZ h
 rw [hk] at h7
 rw [h2]
 cases d<;>simp only [reduceCtorEq,TK.array.injEq] at h7
 ·rw [h7.1,h7.2]
 exact absurd h7 (me (by simp) (by simp) _)
theorem yu {P:Program} {t:TypeId} {ti:TI} {k e:TypeId} {zo:Option Value} (h:bq P t=some ti) (hk:ti.kind = .map k e zo):P.underlying t=some (.map k e)∧zo=(P.info? e).bind fun i=>i.zero:=by
 obtain ⟨i,d,z,h1,h2,h3,h4,h5,h6,h7,h8⟩:=aZ h
 rw [hk] at h7
 rw [h2]
 cases d<;>simp only [reduceCtorEq,TK.map.injEq] at h7
 ·rw [h7.1,h7.2.1]; exact ⟨rfl,h7.2.2⟩
 exact absurd h7 (me (by simp) (by simp) _)
theorem eR {P:Program} {t:TypeId} {ti:TI} (h:bq P t=some ti) (w:World):(sizeOf t).run P w = .ok ti.size w:=by
 obtain ⟨i,d,z,h1,h2,h3,h4,h5,h6,h7,h8⟩:=aZ h
 simp [sizeOf,typeInfo,h1,h4]
theorem s9 {P:Program} {t:TypeId} {ti:TI} (h:bq P t=some ti) (w:World):(isAgg t).run P w = .ok (da ti.kind) w:=by
 obtain ⟨i,d,z,h1,h2,h3,h4,h5,h6,h7,h8⟩:=aZ h
 simp only [isAgg,Sem.run_bind,run_underlying h2,Result.andThen_ok]
 rw [h7]
 cases d<;>first|rfl|skip
 rename_i fs
 have e:∀ (b:Bool) (l:List (Nat × TypeId × Nat)),da (bif b then TK.struct l else TK.bad)=true:=by
  intro b l; cases b<;>rfl
 exact congrArg (fun b=>Result.ok b w) (e _ _).symm
theorem wrap64_in {x:Int} (h:ah x):IntKind.i64.wrap x=x:=by
 unfold ah at h
 rw [IntKind.wrap_i64]; omega
theorem eZ {ok:Nat→Prop} {w:World} {f:Int→Int→Int} {k:IntKind} {a b:Int} (h:(arith f k a b).1):Reads ok w (arith f k a b).2 (.int k (k.wrap (f a b))):=by
 unfold arith at *
 cases k<;>simp only at h ⊢<;>first|exact .int _ _|(rw [wrap64_in h]; exact .int _ _)
theorem uE {P:Program} {w:World} {ok:Nat→Prop} {op:BinOp} {t:TypeId} {k:IntKind} {a b:Int} (hop:op ≠ .shl∧op ≠ .shr) (h:(bx op k a b).1) :
  ∃ v,(binOp op t (.int k a) (.int k b)).run P w = .ok v w∧Reads ok w (bx op k a b).2 v:=by
 obtain ⟨h1,h2⟩:=hop
 cases op<;>simp only [bx,ne_eq,not_true_eq_false,reduceCtorEq] at h h1 h2 ⊢
 case add=>exact ⟨_,by simp [binOp,Op.intArith],eZ h⟩
 case sub=>exact ⟨_,by simp [binOp,Op.intArith],eZ h⟩
 case mul=>exact ⟨_,by simp [binOp,Op.intArith],eZ h⟩
 case quo=>exact ⟨_,by simp [binOp,Op.intDiv,h.1],eZ h.2⟩
 case rem=>exact ⟨_,by simp [binOp,Op.intDiv,h],.int _ _⟩
 case and=>exact ⟨_,by simp [binOp,Op.intBits],.int _ _⟩
 case or=>exact ⟨_,by simp [binOp,Op.intBits],.int _ _⟩
 case xor=>exact ⟨_,by simp [binOp,Op.intBits],.int _ _⟩
 case andNot=>exact ⟨_,by simp [binOp,Op.intBits],.int _ _⟩
 case eql=>exact ⟨_,by simp [binOp,Op.intCmp],.bool _⟩
 case neq=>exact ⟨_,by simp [binOp,Op.intCmp],.bool _⟩
 case lss=>exact ⟨_,by simp [binOp,Op.intCmp],.bool _⟩
 case leq=>exact ⟨_,by simp [binOp,Op.intCmp],.bool _⟩
 case gtr=>exact ⟨_,by simp [binOp,Op.intCmp],.bool _⟩
 case geq=>exact ⟨_,by simp [binOp,Op.intCmp],.bool _⟩
theorem p8 {P:Program} {w:World} {ok:Nat→Prop} {op:BinOp} {t:TypeId} {k k' : IntKind} {a b:Int} (hop:op = .shl∨op = .shr) (h:(bx op k a b).1) :
  ∃ v,(binOp op t (.int k a) (.int k' b)).run P w = .ok v w∧Reads ok w (bx op k a b).2 v:=by
 rcases hop with rfl | rfl<;>simp only [bx] at h ⊢
 ·exact ⟨_,by simp [binOp,Op.shift,show ¬ b < 0 by omega],.int _ _⟩
 exact ⟨_,by simp [binOp,Op.shift,show ¬ b < 0 by omega],.int _ _⟩
section
variable {P:Program} {T:TypeId→Option TI} (hT:∀ t ti,T t=some ti→bq P t=some ti) {C:Ctx} {m:Map} {s:St} {a:Act} {w:World}
theorem still (R:Rel C m s a.tmps w) {o:Oper} {v:Value} {av:AV} (hr:(execOp a.eval o).run P w = .ok (.value v) w) (hv:aH (Reads (OK C m s.H w) w) m s.H av v) :
  ∃ v w' m',Yields P o a w v w'∧Rel C m' { s with H:=s.H } a.tmps w'∧aH (Reads (OK C m' s.H w') w') m' s.H av v:=⟨v,w,m,.inl hr,R,hv⟩
theorem fJ {T:TypeId→Option TI} {t:TypeId} {k:TK} (h:(T t).map TI.kind=some k):∃ ti,T t=some ti∧ti.kind=k:=by
 cases e:T t with
 | none=>simp [e] at h
 | some ti=>exact ⟨ti,rfl,by simpa [e] using h⟩
theorem FL {T:TypeId→Option TI} {t:TypeId} {k:Bool} (h:(T t).map TI.eq2=some k):∃ ti,T t=some ti∧ti.eq2=k:=by
 cases e:T t with
 | none=>simp [e] at h
 | some ti=>exact ⟨ti,rfl,by simpa [e] using h⟩
theorem jW {P:Program} {t:TypeId} (h:kS P t=true):∃ k,P.underlying t=some (.int k):=by
 unfold kS at h
 split at h
 ·exact ⟨_,by assumption⟩
 cases h
theorem fq {P:Program} {t:TypeId} {k:IntKind} (d:Nat) (h:P.underlying t=some (.int k)) (a c:Int) (w:World) :
  (Op.equalIn (d + 1) t (.int .i64 a) (.int .i64 c)).run P w = .ok (a == c) w:=by
 simp [Op.equalIn,run_underlying h]
theorem CU {P:Program} {t:TypeId} {ti:TI} (h:bq P t=some ti) (h2:ti.eq2=true) (a b c d:Int) (w:World) :
  (Op.equalIn 10000 t (.agg #[.int .i64 a,.int .i64 b]) (.agg #[.int .i64 c,.int .i64 d])).run P w = .ok (a == c && b == d) w∧P.eqGuardType P.depth t=false:=by
 obtain ⟨i,de,z,h1,h2',h3,h4,h5,h6,h7,h8⟩:=aZ h
 rw [h2] at h8
 replace h8:=h8.symm
 unfold Ay at h8
 split at h8
 ·rename_i fs
  split at h8
  ·rename_i f g hfs
   simp only [Bool.and_eq_true,bne_iff_ne,ne_eq,beq_iff_eq,Bool.not_eq_eq_eq_not,Bool.not_true] at h8
   obtain ⟨⟨⟨⟨⟨⟨⟨n1,n2⟩,o1⟩,o2⟩,p1⟩,p2⟩,st⟩,eg⟩:=h8
   obtain ⟨k1,p1⟩:=jW p1
   obtain ⟨k2,p2⟩:=jW p2
   have hf:P.fieldsOf t=fs:=by simp [Program.fieldsOf,h2']
   refine ⟨?_,eg⟩
   rw [run_equalIn_struct w 9999 t _ _ (by rw [hf]; exact h2') st,hf,hfs]
   have a1:∀ w,(isAgg f.type).run P w = .ok false w:=fun w=>by simp [isAgg,run_underlying p1]
   have a2:∀ w,(isAgg g.type).run P w = .ok false w:=fun w=>by simp [isAgg,run_underlying p2]
   have q1:∀ (x y:Value) w,(part f.type #[x,y] f.offset).run P w = .ok x w:=fun x y w=>by simp [part,a1,o1]
   have q2:∀ (x y:Value) w,(part g.type #[x,y] g.offset).run P w = .ok y w:=fun x y w=>by simp [part,a2,o2]
   have e1:(Op.equalIn 9999 f.type (.int .i64 a) (.int .i64 c)).run P w = .ok (a == c) w:=by
    exact fq 9998 p1 a c w
   have e2:(Op.equalIn 9999 g.type (.int .i64 b) (.int .i64 d)).run P w = .ok (b == d) w:=by
    exact fq 9998 p2 b d w
   simp only [Op.eqFields,n1,n2,ne_eq,not_false_eq_true,if_true,Sem.run_bind,q1,q2,Result.andThen_ok,e1,Sem.run_ite,Sem.run_pure]
   cases hac:(a == c)<;>cases hbd:(b == d)<;>simp [e2,hbd]
  cases h8
 cases h8
include hT in
theorem xi (R:Rel C m s a.tmps w) {o:Oper} {op:BinOp} {t u:TypeId} {x y:Operand} (ho:o.op = .binOp op t x y u) {r:OV} (h:dZ T op t s.H (s.ev x) (s.ev y)=some r) (hvc:r.vc) :
  r.H=s.H∧∃ v,(execOp a.eval o).run P w = .ok (.value v) w∧aH (Reads (OK C m s.H w) w) m s.H r.av v:=by
 have hx:=R.ev x
 have hy:=R.ev y
 have hg:∀ (u v:Value),(∀ b c,¬ (u = .agg b∧v = .agg c))→¬ (u = .nilIface∧v = .nilIface)→(eqGuard op t x y u v).run P w = .ok () w:=by
  intro u v h1 h2
  unfold eqGuard
  cases u<;>cases v<;>simp_all<;>split<;>rfl
 unfold dZ at h
 split at h
 ·
  rename_i k i k' j hxe hye
  rw [hxe] at hx; rw [hye] at hy
  have ex:=hx.aQ.dz
  have ey:=hy.aQ.dz
  have hgg:=hg (.int k i) (.int k' j) (by simp) (by simp)
  split at h<;>simp only [Option.some.injEq] at h<;>subst h
  ·obtain ⟨v,hv,hr⟩:=p8 (P:=P) (w:=w) (ok:=OK C m s.H w) (op:=.shl) (t:=t) (k:=k) (k':=k') (.inl rfl) hvc
   exact ⟨rfl,v,by simp [execOp,ho,ex,ey,hgg,hv],.p _ _ hr⟩
  ·obtain ⟨v,hv,hr⟩:=p8 (P:=P) (w:=w) (ok:=OK C m s.H w) (op:=.shr) (t:=t) (k:=k) (k':=k') (.inr rfl) hvc
   exact ⟨rfl,v,by simp [execOp,ho,ex,ey,hgg,hv],.p _ _ hr⟩
  obtain ⟨rfl,hvc⟩:=hvc
  obtain ⟨v,hv,hr⟩:=uE (P:=P) (w:=w) (ok:=OK C m s.H w) (op:=op) (t:=t) ⟨by assumption,by assumption⟩ hvc
  exact ⟨rfl,v,by simp [execOp,ho,ex,ey,hgg,hv],.p _ _ hr⟩
 ·
  rename_i i j hxe hye
  rw [hxe] at hx; rw [hye] at hy
  have ex:=hx.aQ.fa
  have ey:=hy.aQ.fa
  have hgg:=hg (.bool i) (.bool j) (by simp) (by simp)
  split at h<;>simp only [Option.some.injEq,reduceCtorEq] at h<;>subst h<;>rename_i hk<;>obtain ⟨ti,ht,hk⟩:=fJ hk<;>have hu:=Bm (hT _ _ ht) hk
  ·exact ⟨rfl,_,by simp only [execOp,ho,ex,ey,hgg,Sem.run_bind,Result.andThen_ok,run_eql_bool w t i j hu,Sem.run_pure],.p _ _ (.bool _)⟩
  exact ⟨rfl,_,by simp only [execOp,ho,ex,ey,hgg,Sem.run_bind,Result.andThen_ok,run_neq_bool w t i j hu,Sem.run_pure]; rfl,.p _ _ (.bool _)⟩
 ·
  rename_i i j hxe hye
  rw [hxe] at hx; rw [hye] at hy
  have ex:=hx.aQ.nK
  have ey:=hy.aQ.nK
  have hgg:=hg (.string i) (.string j) (by simp) (by simp)
  split at h<;>simp only [Option.some.injEq,reduceCtorEq] at h<;>subst h
  ·exact ⟨rfl,_,by simp only [execOp,ho,ex,ey,hgg,Sem.run_bind,Result.andThen_ok,binOp_string_eql,← beq_toListBytes,Sem.run_pure],.p _ _ (.bool _)⟩
  exact ⟨rfl,_,by simp only [execOp,ho,ex,ey,hgg,Sem.run_bind,Result.andThen_ok,binOp_string_neq,← beq_toListBytes,Sem.run_pure]; rfl,.p _ _ (.bool _)⟩
 ·
  rename_i p q p' q' hxe hye
  rw [hxe] at hx; rw [hye] at hy
  obtain ⟨x1,x2,ex,e1,e2⟩:=hx.aQ.oJ
  obtain ⟨y1,y2,ey,e3,e4⟩:=hy.aQ.oJ
  have e1:=e1.dz
  have e2:=e2.dz
  have e3:=e3.dz
  have e4:=e4.dz
  subst e1 e2 e3 e4
  split at h<;>simp only [Option.some.injEq,reduceCtorEq] at h<;>subst h<;>rename_i hk<;>obtain ⟨ti,ht,hk⟩:=FL hk<;>obtain ⟨hr,hge⟩:=CU (hT _ _ ht) hk p q p' q' w
  all_goals
   have hgg:∀ op,(eqGuard op t x y (.agg #[.int .i64 p,.int .i64 q]) (.agg #[.int .i64 p',.int .i64 q'])).run P w = .ok () w:=by
    intro op
    unfold eqGuard
    split<;>simp [hge]
  ·exact ⟨rfl,_,by simp only [execOp,ho,ex,ey,hgg,Sem.run_bind,Result.andThen_ok,run_eql_struct,hr,Sem.run_pure],.p _ _ (.bool _)⟩
  exact ⟨rfl,_,by simp only [execOp,ho,ex,ey,hgg,Sem.run_bind,Result.andThen_ok,run_neq_struct,hr,Sem.run_pure],.p _ _ (.bool _)⟩
 ·
  rename_i l hxe hye
  rw [hxe] at hx; rw [hye] at hy
  obtain ⟨ad,cap,ex,hne,_⟩:=hx.aQ.tJ
  have ey:=hy.aQ.eP
  have hgg:=hg (.slice ad l.length cap) (.slice none 0 0) (by simp) (by simp)
  split at h<;>simp only [Option.some.injEq,reduceCtorEq] at h<;>subst h<;>rename_i hk<;>obtain ⟨ti,ht,hk⟩:=fJ hk<;>have hu:=cT (hT _ _ ht) hk <;>
   obtain ⟨b,rfl⟩:=hne hvc
  ·exact ⟨rfl,_,by simp only [execOp,ho,ex,ey,hgg,Sem.run_bind,Result.andThen_ok,Lib.run_eql_slice_nil w t _ _ _ _ _ _ hu,Sem.run_pure]; rfl,.p _ _ (.bool _)⟩
  exact ⟨rfl,_,by simp only [execOp,ho,ex,ey,hgg,Sem.run_bind,Result.andThen_ok,run_neq_slice_nil_any w t _ _ _ _ _ _ hu,Sem.run_pure]; rfl,.p _ _ (.bool _)⟩
 ·
  rename_i l hxe hye
  rw [hxe] at hx; rw [hye] at hy
  obtain ⟨ad,cap,ex,_⟩:=hx.aQ.yo
  have ey:=hy.aQ.eP
  have hgg:=hg (.slice (some ad) l.length cap) (.slice none 0 0) (by simp) (by simp)
  split at h<;>simp only [Option.some.injEq,reduceCtorEq] at h<;>subst h<;>rename_i hk<;>obtain ⟨ti,ht,hk⟩:=fJ hk<;>have hu:=cT (hT _ _ ht) hk
  ·exact ⟨rfl,_,by simp only [execOp,ho,ex,ey,hgg,Sem.run_bind,Result.andThen_ok,Lib.run_eql_slice_nil w t _ _ _ _ _ _ hu,Sem.run_pure]; rfl,.p _ _ (.bool _)⟩
  exact ⟨rfl,_,by simp only [execOp,ho,ex,ey,hgg,Sem.run_bind,Result.andThen_ok,run_neq_slice_nil_any w t _ _ _ _ _ _ hu,Sem.run_pure]; rfl,.p _ _ (.bool _)⟩
 ·
  rename_i hxe hye
  rw [hxe] at hx; rw [hye] at hy
  obtain ⟨ad,cap,ex⟩:=hx.aQ.zE
  have ey:=hy.aQ.eP
  have hgg:=hg (.slice (some ad) 0 cap) (.slice none 0 0) (by simp) (by simp)
  split at h<;>simp only [Option.some.injEq,reduceCtorEq] at h<;>subst h<;>rename_i hk<;>obtain ⟨ti,ht,hk⟩:=fJ hk<;>have hu:=cT (hT _ _ ht) hk
  ·exact ⟨rfl,_,by simp only [execOp,ho,ex,ey,hgg,Sem.run_bind,Result.andThen_ok,Lib.run_eql_slice_nil w t _ _ _ _ _ _ hu,Sem.run_pure]; rfl,.p _ _ (.bool _)⟩
  exact ⟨rfl,_,by simp only [execOp,ho,ex,ey,hgg,Sem.run_bind,Result.andThen_ok,run_neq_slice_nil_any w t _ _ _ _ _ _ hu,Sem.run_pure]; rfl,.p _ _ (.bool _)⟩
 ·
  rename_i hxe hye
  rw [hxe] at hx; rw [hye] at hy
  have ex:=hx.aQ.eP
  have ey:=hy.aQ.eP
  have hgg:=hg (.slice none 0 0) (.slice none 0 0) (by simp) (by simp)
  split at h<;>simp only [Option.some.injEq,reduceCtorEq] at h<;>subst h<;>rename_i hk<;>obtain ⟨ti,ht,hk⟩:=fJ hk<;>have hu:=cT (hT _ _ ht) hk
  ·exact ⟨rfl,_,by simp only [execOp,ho,ex,ey,hgg,Sem.run_bind,Result.andThen_ok,Lib.run_eql_slice_nil w t _ _ _ _ _ _ hu,Sem.run_pure]; rfl,.p _ _ (.bool _)⟩
  exact ⟨rfl,_,by simp only [execOp,ho,ex,ey,hgg,Sem.run_bind,Result.andThen_ok,run_neq_slice_nil_any w t _ _ _ _ _ _ hu,Sem.run_pure]; rfl,.p _ _ (.bool _)⟩
 cases h
end
open Go.RowKit
theorem b9:∀ {H:aw} {k:Nat} {b:aL},aq H k=b→b ≠ .dead→H[k]? = some b
 | [],k,b,h,hb=>by simp [aq] at h; exact absurd h.symm hb
 | x :: r,0,b,h,_=>by simp [aq] at h; simp [h]
 | x :: r,k + 1,b,h,hb=>by simpa using b9 (H:=r) h hb
theorem bj {H:aw} {k:Nat} {c:List AV} (h:aq H k = .own c):H[k]? = some (.own c):=b9 h (by simp)
theorem gj {H:aw} {k:Nat} {c:List PV} (h:aq H k = .fro c):H[k]? = some (.fro c):=b9 h (by simp)
theorem aH.wU {rd:PV→Value→Prop} {ok:Nat→Prop} {w:World} (hrd:rd=Reads ok w) {m:Map} {H:aw} {x:AV} {v:Value} (h:aH rd m H x v) (hx:x.isAgg=true) :
  ∃ vs,v = .agg vs∧vs.size=x.cells.length∧∀ c (hc:c < x.cells.length),aH rd m H x.cells[c] (vs.getD c undef):=by
 subst hrd
 cases h with
 | p pv v h =>
  cases h with
  | agg l vs hl hr =>
   refine ⟨vs,rfl,by simpa [AV.cells] using hl,fun c hc=>?_⟩
   simp only [AV.cells,List.length_map] at hc
   simp only [AV.cells,List.getElem_map]
   exact .p _ _ (hr c hc)
  | _=>simp [AV.isAgg] at hx
 | agg l vs hl hr=>exact ⟨vs,rfl,hl,hr⟩
 | _=>simp [AV.isAgg] at hx
theorem fN:∀ {l:List AV} {ps:List PV},eL l=some ps→l=ps.map .p
 | [],ps,h=>by simp [eL] at h; subst h; rfl
 | .p v :: r,ps,h=>by
  simp only [eL,Option.map_eq_some_iff] at h
  obtain ⟨q,hq,rfl⟩:=h
  rw [fN hq]; rfl
 | .dead :: r,ps,h=>by simp [eL] at h
 | .sl _ _ _ :: r,ps,h=>by simp [eL] at h
 | .ptr _ _ :: r,ps,h=>by simp [eL] at h
 | .agg _ :: r,ps,h=>by simp [eL] at h
 | .tup _ :: r,ps,h=>by simp [eL] at h
 | .mptr _ :: r,ps,h=>by simp [eL] at h
 | .yv _ _ _ :: r,ps,h=>by simp [eL] at h
 | .cl _ _ :: r,ps,h=>by simp [eL] at h
 | .lJ _ :: r,ps,h=>by simp [eL] at h
 | .sls _ _ _ _ :: r,ps,h=>by simp [eL] at h
theorem jH {ok:Nat→Prop} {w:World} {m:Map} {H:aw} {l:List AV} {vs:Array Value} (hl:vs.size=l.length)
  (hr:∀ c (h:c < l.length),aH (Reads ok w) m H l[c] (vs.getD c undef)):aH (Reads ok w) m H (oz l) (.agg vs):=by
 unfold oz
 split
 ·rename_i ps hps
  have e:=fN hps
  subst e
  refine .p _ _ (.agg _ _ (by simpa using hl) fun c hc=>?_)
  have:=hr c (by simpa using hc)
  simp only [List.getElem_map] at this
  exact this.aQ
 exact .agg _ _ hl hr
theorem rT {fs:Array Field} {P:Program} {l:List (Nat × TypeId × Nat)} (h:l=fs.toList.map fun f=>(f.offset,f.type,P.cellsOf f.type)) {i:Nat} {x:Nat × TypeId × Nat} (hx:l[i]? = some x) :
  ∃ f,fs[i]? = some f∧f.offset=x.1∧f.type=x.2.1∧P.cellsOf f.type=x.2.2:=by
 subst h
 simp only [List.getElem?_map,Option.map_eq_some_iff] at hx
 obtain ⟨f,hf,rfl⟩:=hx
 exact ⟨f,by simpa using hf,rfl,rfl,rfl⟩
section
variable {P:Program} {T:TypeId→Option TI} (hT:∀ t ti,T t=some ti→bq P t=some ti) {C:Ctx} {m:Map} {s:St} {a:Act} {w:World}
theorem xX (R:Rel C m s a.tmps w) {o:Oper} {x:Operand} (ho:o.op = .nilCheck x) {r:OV} (h:sf s.H (s.ev x)=some r) :
  r.H=s.H∧∃ v,(execOp a.eval o).run P w = .ok (.value v) w∧aH (Reads (OK C m s.H w) w) m s.H r.av v:=by
 have hx:=R.ev x
 unfold sf at h
 split at h<;>simp only [Option.some.injEq,reduceCtorEq] at h
 ·rename_i k i hxe
  subst h
  rw [hxe] at hx
  generalize hv:a.eval x=v at hx
  cases hx with
  | ptr _ _ _ hk hp =>
   obtain ⟨l,hm,rfl⟩:=hp
   exact ⟨rfl,_,by simp [execOp,ho,hv],.ptr _ _ _ hk ⟨l,hm,rfl⟩⟩
 rename_i c hxe
 subst h
 rw [hxe] at hx
 generalize hv:a.eval x=v at hx
 have h2:=hx.aQ
 cases h2 with
 | ptr _ b off vs hb hc hr=>exact ⟨rfl,_,by simp [execOp,ho,hv],hx⟩
include hT in
theorem tB (R:Rel C m s a.tmps w) {o:Oper} {t:TypeId} {x y:Operand} (ho:o.op = .index t x y) {ti:TI} (ht:T t=some ti) {r:OV} (h:kb ti s.H (s.ev x) (s.ev y)=some r) (hvc:r.vc) :
  r.H=s.H∧∃ v,(execOp a.eval o).run P w = .ok (.value v) w∧aH (Reads (OK C m s.H w) w) m s.H r.av v:=by
 have hx:=R.ev x
 have hy:=R.ev y
 unfold kb at h
 split at h
 ·rename_i k i hye
  split at h
  ·rename_i hk
   split at h<;>simp only [Option.some.injEq,reduceCtorEq] at h
   rename_i b hxe
   subst h
   rw [hxe] at hx
   rw [hye] at hy
   have ex:=hx.aQ.nK
   have ey:=hy.aQ.dz
   have hu:=A4 (hT _ _ ht) hk
   obtain ⟨h0,h1⟩:=hvc
   have hi:i.toNat < b.data.toList.length:=by
    have:b.size=b.data.toList.length:=by rw [Array.length_toList]; rfl
    omega
   have e:(b[i.toNat]'(by omega)).toNat=(b.data.toList.getD i.toNat 0).toNat:=by
    rw [List.getD_eq_getElem?_getD,List.getElem?_eq_getElem hi]
    rfl
   refine ⟨rfl,.int .u8 (Aj b i.toNat),?_,.p _ _ (.int _ _)⟩
   have hr:=run_index_string (P:=P) w t b k i hu
   rw [dif_pos ⟨h0,h1⟩,e] at hr
   simp only [execOp,ho,ex,ey,Sem.run_bind,hr,Result.andThen_ok,Sem.run_pure]
   rfl
  cases h
 cases h
theorem yO (R:Rel C m s a.tmps w) {o:Oper} {op:UnOp} {t:TypeId} {x:Operand} (ho:o.op = .unOp op t x) {r:OV} (h:yb op s.H (s.ev x)=some r) (hvc:r.vc) :
  r.H=s.H∧∃ v,(execOp a.eval o).run P w = .ok (.value v) w∧aH (Reads (OK C m s.H w) w) m s.H r.av v:=by
 have hx:=R.ev x
 unfold yb at h
 split at h
 ·rename_i k i hxe
  rw [hxe] at hx
  have ex:=hx.aQ.dz
  split at h<;>simp only [Option.some.injEq,reduceCtorEq] at h<;>subst h
  ·exact ⟨rfl,.int k (k.wrap (0 - i)),by simp [execOp,ho,ex,Op.unary,Op.intArith],.p _ _ (eZ hvc)⟩
  exact ⟨rfl,_,by simp [execOp,ho,ex,Op.unary,Op.intBits],.p _ _ (.int _ _)⟩
 ·rename_i b hxe
  rw [hxe] at hx
  have ex:=hx.aQ.fa
  split at h<;>simp only [Option.some.injEq,reduceCtorEq] at h<;>subst h
  exact ⟨rfl,_,by simp [execOp,ho,ex,Op.unary],.p _ _ (.bool _)⟩
 cases h
theorem uD (R:Rel C m s a.tmps w) {o:Oper} {c x y:Operand} (ho:o.op = .pick c x y) {r:OV} (h:lr (s.ev x) (s.ev y) s.H (s.ev c)=some r) :
  r.H=s.H∧∃ v,(execOp a.eval o).run P w = .ok (.value v) w∧aH (Reads (OK C m s.H w) w) m s.H r.av v:=by
 have hc:=R.ev c
 unfold lr at h
 split at h<;>simp only [Option.some.injEq,reduceCtorEq] at h
 ·rename_i e
  rw [e] at hc
  subst h
  exact ⟨rfl,_,by simp [execOp,ho,hc.aQ.fa,asBool],R.ev x⟩
 rename_i e
 rw [e] at hc
 subst h
 exact ⟨rfl,_,by simp [execOp,ho,hc.aQ.fa,asBool],R.ev y⟩
include hT in
theorem u0 (R:Rel C m s a.tmps w) {o:Oper} {src dst:TypeId} {x:Operand} (ho:o.op = .convert src dst x) {r:OV} (h:mD T src dst s.H (s.ev x)=some r) :
  r.H=s.H∧∃ v,(execOp a.eval o).run P w = .ok (.value v) w∧aH (Reads (OK C m s.H w) w) m s.H r.av v:=by
 have hx:=R.ev x
 unfold mD at h
 split at h
 ·rename_i k i hxe
  rw [hxe] at hx
  have ex:=hx.aQ.dz
  split at h<;>simp only [Option.some.injEq,reduceCtorEq] at h
  rename_i k1 k2 hk1 hk2
  subst h
  obtain ⟨ti,ht,hk⟩:=fJ hk1
  obtain ⟨ti',ht',hk'⟩:=fJ hk2
  have hu:=qN (hT _ _ ht) hk
  have hu':=qN (hT _ _ ht') hk'
  exact ⟨rfl,_,by simp [execOp,ho,ex,convert,run_underlying hu,run_underlying hu',Conv.intToInt],.p _ _ (.int _ _)⟩
 cases h
theorem pC (R:Rel C m s a.tmps w) {o:Oper} {x:Operand} {i:Nat} (ho:o.op = .extract x i) {r:OV} (h:er i s.H (s.ev x)=some r) (hvc:r.vc) :
  r.H=s.H∧∃ v,(execOp a.eval o).run P w = .ok (.value v) w∧aH (Reads (OK C m s.H w) w) m s.H r.av v:=by
 have hx:=R.ev x
 unfold er at h
 split at h<;>simp only [Option.some.injEq,reduceCtorEq] at h<;>subst h
 ·rename_i l hxe
  rw [hxe] at hx
  generalize hv:a.eval x=v at hx
  have hx:=hx.aQ
  cases hx with
  | tup _ vs hl hr =>
   have hi:i < vs.size:=by rw [hl]; exact hvc
   refine ⟨rfl,vs.getD i undef,?_,.p _ _ ?_⟩
   ·simp [execOp,ho,hv,Instr.extract,Array.getD_eq_getD_getElem?,Array.getElem?_eq_getElem hi]
   have:=hr i hvc
   simpa [List.getD,List.getElem?_eq_getElem hvc] using this
 rename_i l hxe
 rw [hxe] at hx
 generalize hv:a.eval x=v at hx
 cases hx with
 | tup _ vs hl hr =>
  have hi:i < vs.size:=by rw [hl]; exact hvc
  refine ⟨rfl,vs.getD i undef,?_,?_⟩
  ·simp [execOp,ho,hv,Instr.extract,Array.getD_eq_getD_getElem?,Array.getElem?_eq_getElem hi]
  have:=hr i hvc
  simpa [List.getD,List.getElem?_eq_getElem hvc] using this
include hT in
theorem su (R:Rel C m s a.tmps w) {o:Oper} {t:TypeId} {x:Operand} {i:Nat} (ho:o.op = .field t x i) {ti:TI} (ht:T t=some ti) (hag:(s.ev x).isAgg=true) {r:OV} (h:kE T ti i s.H (s.ev x)=some r) (hvc:r.vc) :
  r.H=s.H∧∃ v,(execOp a.eval o).run P w = .ok (.value v) w∧aH (Reads (OK C m s.H w) w) m s.H r.av v:=by
 obtain ⟨vs,ev,hsz,hcs⟩:=(R.ev x).wU rfl hag
 unfold kE at h
 split at h
 ·rename_i l hk
  obtain ⟨fs,hu,hfs,_⟩:=lW (hT _ _ ht) hk
  split at h
  ·rename_i off ft sz hl
   obtain ⟨f,hf,e1,e2,e3⟩:=rT hfs hl
   simp only at e1 e2 e3
   split at h
   ·rename_i tf htf
    have hag':=s9 (hT _ _ htf)
    have hss:=eR (hT _ _ htf)
    cases hrow:da tf.kind<;>rw [hrow] at h hag'<;>simp only [cond_true,cond_false,Option.some.injEq] at h<;>subst h
    ·have hlt:off < vs.size:=by rw [hsz]; exact hvc
     refine ⟨rfl,vs.getD off undef,?_,?_⟩
     ·simp [execOp,ho,ev,Instr.field,run_underlying hu,hf,asAgg,part,e1,e2,hag',Array.getD_eq_getD_getElem?,Array.getElem?_eq_getElem hlt]
     have:=hcs off hvc
     simpa [List.getD,List.getElem?_eq_getElem hvc] using this
    refine ⟨rfl,.agg (vs.extract off (off + tf.size)),?_,jH ?_ ?_⟩
    ·simp [execOp,ho,ev,Instr.field,run_underlying hu,hf,asAgg,part,e1,e2,hag',hss]
    ·simp only at hvc
     simp only [Array.size_extract,List.length_take,List.length_drop,hsz]
     omega
    intro c hc
    simp only at hvc
    simp only [List.length_take,List.length_drop] at hc
    have:=hcs (off + c) (by omega)
    simp only [List.getElem_take,List.getElem_drop]
    have e:(vs.extract off (off + tf.size)).getD c undef=vs.getD (off + c) undef:=by
     simp only [Array.getD_eq_getD_getElem?]
     rw [Array.getElem?_extract,if_pos (by omega)]
    rw [e]
    exact this
   cases h
  cases h
 cases h
theorem add_lit (b o n:Nat):(⟨b,o,none⟩:Addr).add n=⟨b,o + n,none⟩:=by
 unfold Addr.add
 split
 ·subst_vars; rfl
 rfl
theorem Reads.rB {ok:Nat→Prop} {w:World} {l:List PV} {v:Value} (h:Reads ok w (.ptr l) v):∃ b off,∃ vs:Nat→Value,v = .pointer (some ⟨b,off,none⟩)∧ok b ∧
  (∀ c,c < l.length→w.cell? ⟨b,off + c,none⟩=some (vs c))∧∀ c (h:c < l.length),Reads ok w l[c] (vs c):=by
 cases h with
 | ptr _ b off vs hb hc hr=>exact ⟨b,off,vs,rfl,hb,hc,hr⟩
include hT in
theorem nh (R:Rel C m s a.tmps w) {o:Oper} {t:TypeId} {x:Operand} {i:Nat} (ho:o.op = .fieldAddr t x i) {ti:TI} (ht:T t=some ti) {r:OV} (h:dV ti i s.H (s.ev x)=some r) (hvc:r.vc) :
  r.H=s.H∧∃ v,(execOp a.eval o).run P w = .ok (.value v) w∧aH (Reads (OK C m s.H w) w) m s.H r.av v:=by
 have hx:=R.ev x
 unfold dV at h
 split at h
 ·rename_i l hk
  obtain ⟨fs,hu,hfs,_⟩:=lW (hT _ _ ht) hk
  split at h
  ·rename_i off ft sz hl
   obtain ⟨f,hf,e1,e2,e3⟩:=rT hfs hl
   simp only at e1 e2 e3
   have hsz:sz ≠ 0→∃ i,P.info? f.type=some i∧i.size=sz:=by
    intro hne
    unfold Program.cellsOf at e3
    cases hi:P.info? f.type with
    | none=>simp [hi] at e3; omega
    | some i=>simp [hi] at e3; exact ⟨i,rfl,e3⟩
   split at h<;>simp only [Option.some.injEq,reduceCtorEq] at h<;>subst h
   ·rename_i k j hxe
    rw [hxe] at hx
    generalize hv:a.eval x=v at hx
    cases hx with
    | ptr _ _ _ hk' hp =>
     obtain ⟨l',hm,rfl⟩:=hp
     obtain ⟨ii,hii,hs⟩:=hsz hvc
     have hne:¬ ii.size=0:=by rw [hs]; exact hvc
     refine ⟨rfl,.pointer (some ⟨l'.g,l'.o + j + off,none⟩),?_,.ptr _ _ _ hk' ⟨l',hm,by rw [Nat.add_assoc]⟩⟩
     simp [execOp,ho,hv,Instr.fieldAt,run_underlying hu,hf,Instr.sureAddr,fieldPlace,sizeOf,typeInfo,hii,hne,e1,add_lit]
   rename_i c hxe
   rw [hxe] at hx
   obtain ⟨b,ofs,vs,hv,hb,hc,hr⟩:=hx.aQ.rB
   obtain ⟨ii,hii,hs⟩:=hsz hvc.1
   have hne:¬ ii.size=0:=by rw [hs]; exact hvc.1
   refine ⟨rfl,.pointer (some ⟨b,ofs + off,none⟩),?_,.p _ _ ?_⟩
   ·simp [execOp,ho,hv,Instr.fieldAt,run_underlying hu,hf,Instr.sureAddr,fieldPlace,sizeOf,typeInfo,hii,hne,e1,add_lit]
   refine .ptr _ b (ofs + off) (fun c=>vs (off + c)) hb (fun j hj=>?_) fun j hj=>?_
   ·simp only [List.length_drop] at hj
    rw [Nat.add_assoc]; exact hc (off + j) (by omega)
   simp only [List.length_drop] at hj
   simp only [List.getElem_drop]
   exact hr (off + j) (by omega)
  cases h
 cases h
end
open Go.RowKit
theorem Reads.o5 {ok:Nat→Prop} {w:World} {l:List PV} {v:Value} (h:Reads ok w (.list l) v):(l=[]∧∃ a cap,v = .slice a 0 cap) ∨
  ∃ b off cap sz,∃ vs:Nat→Value,v = .slice (some ⟨b,off,none⟩) l.length cap∧ok b∧(∀ x∈l,x.cells.length=sz)∧l.length≤cap ∧
   (∀ c,c < (flat l).length→w.cell? ⟨b,off + c,none⟩=some (vs c))∧∀ c (h:c < (flat l).length),Reads ok w (flat l)[c] (vs c):=by
 cases h with
 | list0 a cap h=>exact .inl ⟨rfl,a,cap,rfl⟩
 | list _ b off cap sz vs hb hsz hcap hc hr=>exact .inr ⟨b,off,cap,sz,vs,rfl,hb,hsz,hcap,hc,hr⟩
theorem Reads.pg {ok:Nat→Prop} {w:World} {l:List PV} {v:Value} (h:Reads ok w (.nn l) v):(l=[]∧∃ a,v = .slice (some a) 0 0) ∨
  ∃ b off sz,∃ vs:Nat→Value,v = .slice (some ⟨b,off,none⟩) l.length l.length∧ok b∧(∀ x∈l,x.cells.length=sz) ∧
   (∀ c,c < (flat l).length→w.cell? ⟨b,off + c,none⟩=some (vs c))∧∀ c (h:c < (flat l).length),Reads ok w (flat l)[c] (vs c):=by
 cases h with
 | nn0 a=>exact .inl ⟨rfl,a,rfl⟩
 | nn _ b off sz vs hb hsz hc hr=>exact .inr ⟨b,off,sz,vs,rfl,hb,hsz,hc,hr⟩
theorem oh {ok:Nat→Prop} {w:World} {l:List PV} {b off sz i:Nat} {vs:Nat→Value} (hi:i < l.length) (hb:ok b) (hsz:∀ x∈l,x.cells.length=sz)
  (hc:∀ c,c < (flat l).length→w.cell? ⟨b,off + c,none⟩=some (vs c)) (hr:∀ c (h:c < (flat l).length),Reads ok w (flat l)[c] (vs c)) :
  Reads ok w (.ptr (l.getD i default).cells) (.pointer (some ⟨b,off + i * sz,none⟩)):=by
 have hx:l[i]? = some (l.getD i default):=by simp [List.getD,List.getElem?_eq_getElem hi]
 have hlen:(l.getD i default).cells.length=sz:=hsz _ (List.mem_of_getElem? hx)
 have hfl:=ga sz l hsz
 have hlt:i * sz + sz≤(flat l).length:=by
  rw [hfl]
  have:(i + 1) * sz≤l.length * sz:=Nat.mul_le_mul_right _ hi
  rw [Nat.add_mul] at this; omega
 refine .ptr _ b (off + i * sz) (fun c=>vs (i * sz + c)) hb (fun c hcl=>?_) fun c hcl=>?_
 ·rw [Nat.add_assoc]; exact hc (i * sz + c) (by omega)
 have e:=jX sz l i c _ hsz hx (by omega)
 have h2:=hr (i * sz + c) (by omega)
 rw [List.getElem?_eq_getElem (by omega),List.getElem?_eq_getElem hcl] at e
 rw [Option.some.inj e] at h2
 exact h2
theorem mg (sz:Nat):∀ (l:List PV) (n:Nat),(∀ x∈l,x.cells.length=sz)→flat (l.drop n)=(flat l).drop (n * sz)
 | [],n,_=>by simp [flat]
 | x :: r,0,_=>by simp
 | x :: r,n + 1,h=>by
  have h1:=h x (by simp)
  have e:(n + 1) * sz=x.cells.length + n * sz:=by rw [h1,Nat.add_mul]; omega
  simp only [List.drop_succ_cons,flat]
  rw [e,← List.drop_drop,List.drop_left]
  exact mg sz r n (fun y hy=>h y (by simp [hy]))
theorem p3 (sz:Nat):∀ (l:List PV) (n:Nat),(∀ x∈l,x.cells.length=sz)→flat (l.take n)=(flat l).take (n * sz)
 | [],n,_=>by simp [flat]
 | x :: r,0,_=>by simp [flat]
 | x :: r,n + 1,h=>by
  have h1:=h x (by simp)
  have e:(n + 1) * sz=x.cells.length + n * sz:=by rw [h1,Nat.add_mul]; omega
  simp only [List.take_succ_cons,flat]
  rw [e,p3 sz r n (fun y hy=>h y (by simp [hy]))]
  exact List.take_length_add_append (n * sz) |>.symm
section
variable {P:Program} {T:TypeId→Option TI} (hT:∀ t ti,T t=some ti→bq P t=some ti) {C:Ctx} {m:Map} {s:St} {a:Act} {w:World}
theorem eY {o:Operand} (R:Rel C m s a.tmps w) {k:IntKind} {i:Int} (h:s.ev o = .p (.int k i)):a.eval o = .int k i:=by
 have:=R.ev o
 rw [h] at this
 exact this.aQ.dz
include hT in
theorem nf (R:Rel C m s a.tmps w) {o:Oper} {t:TypeId} {x y:Operand} (ho:o.op = .indexAddr t x y) {ti:TI} (ht:T t=some ti) {r:OV} (h:du T ti s.H (s.ev x) (s.ev y)=some r) (hvc:r.vc) :
  r.H=s.H∧∃ v,(execOp a.eval o).run P w = .ok (.value v) w∧aH (Reads (OK C m s.H w) w) m s.H r.av v:=by
 have hx:=R.ev x
 unfold du at h
 split at h
 ·rename_i ki i hye
  have ey:=eY R hye
  split at h
  ·rename_i e hk
   have hu:=cT (hT _ _ ht) hk
   split at h
   ·rename_i te hte
    have hss:=eR (hT _ _ hte)
    split at h<;>simp only [Option.some.injEq,reduceCtorEq] at h<;>subst h
    ·rename_i k lo len hxe
     obtain ⟨h1,h2,h3⟩:=hvc
     rw [hxe] at hx
     generalize hv:a.eval x=v at hx
     cases hx with
     | sl _ _ _ _ hk' hs =>
      rcases hs with ⟨h0,_⟩ | ⟨l',cap,hm,rfl,hc1,hc2⟩
      ·omega
      refine ⟨rfl,.pointer (some ⟨l'.g,l'.o + lo + i.toNat,none⟩),?_,.ptr _ _ _ hk' ⟨l',hm,by rw [Nat.add_assoc]⟩⟩
      simp [execOp,ho,hv,ey,Instr.indexAt,asIntOf,run_underlying hu,h2,h3,hss,h1,add_lit]
    ·rename_i l hxe
     obtain ⟨h1,h2,h3⟩:=hvc
     rw [hxe] at hx
     rcases hx.aQ.o5 with ⟨rfl,_⟩ | ⟨b,off,cap,sz,vs,hv,hb,hsz,hcap,hc,hr⟩
     ·simp at h2; omega
     have hi:i.toNat < l.length:=by omega
     have hsz' : sz=te.size:=by
      rw [← h3]
      exact (hsz _ (List.mem_of_getElem? (show l[i.toNat]? = some (l.getD i.toNat default) by simp [List.getD,List.getElem?_eq_getElem hi]))).symm
     refine ⟨rfl,.pointer (some ⟨b,off + i.toNat * sz,none⟩),?_,.p _ _ (oh hi hb hsz hc hr)⟩
     simp [execOp,ho,hv,ey,Instr.indexAt,asIntOf,run_underlying hu,h1,h2,hss,hsz',add_lit]
    rename_i l hxe
    obtain ⟨h1,h2,h3⟩:=hvc
    rw [hxe] at hx
    rcases hx.aQ.pg with ⟨rfl,_⟩ | ⟨b,off,sz,vs,hv,hb,hsz,hc,hr⟩
    ·simp at h2; omega
    have hi:i.toNat < l.length:=by omega
    have hsz' : sz=te.size:=by
     rw [← h3]
     exact (hsz _ (List.mem_of_getElem? (show l[i.toNat]? = some (l.getD i.toNat default) by simp [List.getD,List.getElem?_eq_getElem hi]))).symm
    refine ⟨rfl,.pointer (some ⟨b,off + i.toNat * sz,none⟩),?_,.p _ _ (oh hi hb hsz hc hr)⟩
    simp [execOp,ho,hv,ey,Instr.indexAt,asIntOf,run_underlying hu,h1,h2,hss,hsz',add_lit]
   cases h
  ·rename_i n e hk
   have hu:=oH (hT _ _ ht) hk
   split at h
   ·rename_i te hte
    have hss:=eR (hT _ _ hte)
    split at h<;>simp only [Option.some.injEq,reduceCtorEq] at h<;>subst h
    ·rename_i k j hxe
     obtain ⟨h2,h3⟩:=hvc
     rw [hxe] at hx
     generalize hv:a.eval x=v at hx
     cases hx with
     | ptr _ _ _ hk' hp =>
      obtain ⟨l',hm,rfl⟩:=hp
      refine ⟨rfl,.pointer (some ⟨l'.g,l'.o + j + i.toNat * te.size,none⟩),?_,.ptr _ _ _ hk' ⟨l',hm,by rw [Nat.add_assoc]⟩⟩
      simp [execOp,ho,hv,ey,Instr.indexAt,Instr.sureAddr,asIntOf,run_underlying hu,h2,h3,hss,add_lit]
    rename_i c hxe
    obtain ⟨h1,h2,h3⟩:=hvc
    rw [hxe] at hx
    obtain ⟨b,ofs,vs,hv,hb,hc,hr⟩:=hx.aQ.rB
    refine ⟨rfl,.pointer (some ⟨b,ofs + i.toNat * te.size,none⟩),?_,.p _ _ (.ptr _ _ _ (fun q=>vs (i.toNat * te.size + q)) hb (fun q hq=>?_) fun q hq=>?_)⟩
    ·simp [execOp,ho,hv,ey,Instr.indexAt,Instr.sureAddr,asIntOf,run_underlying hu,h1,h2,hss,add_lit]
    ·simp only [List.length_drop] at hq
     rw [Nat.add_assoc]; exact hc (i.toNat * te.size + q) (by omega)
    simp only [List.length_drop] at hq
    simp only [List.getElem_drop]
    exact hr (i.toNat * te.size + q) (by omega)
   cases h
  cases h
 cases h
theorem mE {d q:Int} {x:AV} (h:dU d (some x)=some q):∃ k,x = .p (.int k q):=by
 unfold dU at h
 split at h
 ·rename_i e; cases e
 ·rename_i k i e
  simp only [Option.some.injEq] at e h
  exact ⟨k,by rw [e,h]⟩
 cases h
theorem ec (R:Rel C m s a.tmps w) {len cap:Nat} {lo hi:Option Operand} {p q:Int} (h1:dU 0 (lo.map s.ev)=some p) (h2:dU len (hi.map s.ev)=some q)
  (hp:0≤p) (hq:p≤q) (hl:q≤(len:Int)) (hc:len≤cap):(Instr.sliceBounds true len cap (lo.map a.eval) (hi.map a.eval) none).run P w = .ok (p.toNat,q.toNat,cap) w:=by
 have a1:∀ o,hi=some o→∃ k,a.eval o = .int k q:=by
  rintro o rfl
  obtain ⟨k,hk⟩:=mE h2
  exact ⟨k,eY R hk⟩
 have a2:∀ o,lo=some o→∃ k,a.eval o = .int k p:=by
  rintro o rfl
  obtain ⟨k,hk⟩:=mE h1
  exact ⟨k,eY R hk⟩
 have n1:hi=none→q=len:=by rintro rfl; simp only [Option.map_none,dU,Option.some.injEq] at h2; exact h2.symm
 have n2:lo=none→p=0:=by rintro rfl; simp only [Option.map_none,dU,Option.some.injEq] at h1; exact h1.symm
 have hq0:0≤q:=by omega
 have hqc:q≤(cap:Int):=by omega
 have eq' : ((q.toNat:Nat):Int)=q:=by omega
 cases hi with
 | none =>
  obtain rfl:=n1 rfl
  cases lo with
  | none=>obtain rfl:=n2 rfl; simp [Instr.sliceBounds]
  | some o =>
   obtain ⟨k,ek⟩:=a2 o rfl
   simp [Instr.sliceBounds,ek,run_sliceBound _ k p len _ hp hq]
 | some o' =>
  obtain ⟨k',ek'⟩:=a1 o' rfl
  cases lo with
  | none=>obtain rfl:=n2 rfl; simp [Instr.sliceBounds,ek',run_sliceBound _ k' q cap _ hq0 hqc]
  | some o =>
   obtain ⟨k,ek⟩:=a2 o rfl
   simp [Instr.sliceBounds,ek,ek',run_sliceBound _ k' q cap _ hq0 hqc,run_sliceBound _ k p q.toNat _ hp (by omega)]
theorem Reads.cut {ok:Nat→Prop} {l:List PV} {b off cap sz p q:Nat} {vs:Nat→Value} (hb:ok b) (hsz:∀ x∈l,x.cells.length=sz) (hcap:l.length≤cap)
  (hc:∀ c,c < (flat l).length→w.cell? ⟨b,off + c,none⟩=some (vs c)) (hr:∀ c (h:c < (flat l).length),Reads ok w (flat l)[c] (vs c)) (hpq:p≤q) (hq:q≤l.length) :
  Reads ok w (.list ((l.drop p).take (q - p))) (.slice (if cap=p then some ⟨b,off,none⟩ else some ⟨b,off + p * sz,none⟩) (q - p) (cap - p)):=by
 have hsz' : ∀ x∈l.drop p,x.cells.length=sz:=fun x hx=>hsz x (List.mem_of_mem_drop hx)
 have hlen:((l.drop p).take (q - p)).length=q - p:=by simp only [List.length_take,List.length_drop]; omega
 by_cases hcp:cap=p
 ·have e:q - p=0:=by omega
  rw [if_pos hcp,e]
  simp only [List.take_zero]
  exact .list0 _ _ (by intro h; first|rfl|(simp at h; done)|(split at h<;>cases h))
 rw [if_neg hcp]
 have hsz2:∀ x∈(l.drop p).take (q - p),x.cells.length=sz:=fun x hx=>hsz' x (List.mem_of_mem_take hx)
 have hfl:flat ((l.drop p).take (q - p))=((flat l).drop (p * sz)).take ((q - p) * sz):=by rw [p3 sz _ _ hsz',mg sz _ _ hsz]
 have:=Reads.list (ok:=ok) (w:=w) ((l.drop p).take (q - p)) b (off + p * sz) (cap - p) sz (fun c=>vs (p * sz + c)) hb hsz2 (by omega) (fun c hcl=>by
  rw [hfl] at hcl
  simp only [List.length_take,List.length_drop] at hcl
  rw [Nat.add_assoc]; exact hc _ (by omega)) (fun c hcl=>by
  have hcl':=hcl
  rw [hfl] at hcl'
  simp only [List.length_take,List.length_drop] at hcl'
  have e:(flat ((l.drop p).take (q - p)))[c]=(flat l)[p * sz + c]'(by omega):=by
   simp only [hfl,List.getElem_take,List.getElem_drop]
  rw [e]
  exact hr _ (by omega))
 rwa [hlen] at this
theorem Reads.GW {ok:Nat→Prop} {l:List PV} {b off sz p:Nat} {vs:Nat→Value} (hb:ok b) (hsz:∀ x∈l,x.cells.length=sz)
  (hc:∀ c,c < (flat l).length→w.cell? ⟨b,off + c,none⟩=some (vs c)) (hr:∀ c (h:c < (flat l).length),Reads ok w (flat l)[c] (vs c)) :
  Reads ok w (.nn (l.drop p)) (.slice (if l.length=p then some ⟨b,off,none⟩ else some ⟨b,off + p * sz,none⟩) (l.length - p) (l.length - p)):=by
 have hlen:(l.drop p).length=l.length - p:=by simp
 by_cases hcp:l.length=p
 ·have e:l.drop p=[]:=by rw [← hcp]; simp
  rw [if_pos hcp,e,hcp,Nat.sub_self]
  exact .nn0 _
 rw [if_neg hcp]
 have hsz2:∀ x∈l.drop p,x.cells.length=sz:=fun x hx=>hsz x (List.mem_of_mem_drop hx)
 have hfl:flat (l.drop p)=(flat l).drop (p * sz):=mg sz _ _ hsz
 have:=Reads.nn (ok:=ok) (w:=w) (l.drop p) b (off + p * sz) sz (fun c=>vs (p * sz + c)) hb hsz2 (fun c hcl=>by
  rw [hfl] at hcl
  simp only [List.length_drop] at hcl
  rw [Nat.add_assoc]; exact hc _ (by omega)) (fun c hcl=>by
  have hcl':=hcl
  rw [hfl] at hcl'
  simp only [List.length_drop] at hcl'
  have e:(flat (l.drop p))[c]=(flat l)[p * sz + c]'(by omega):=by
   simp only [hfl,List.getElem_drop]
  rw [e]
  exact hr _ (by omega))
 rwa [hlen] at this
theorem u3 {l:List PV} {n:Nat} (h:l.all (fun x=>x.cells.length == n)=true):∀ x∈l,x.cells.length=n:=by
 intro x hx
 have:=(List.all_eq_true.1 h) x hx
 simpa using this
theorem qD {l:List PV} {n k:Nat} (h:∀ x∈l,x.cells.length=n) (h' : ∀ x∈l,x.cells.length=k) (hne:l ≠ []):n=k:=by
 cases l with
 | nil=>exact absurd rfl hne
 | cons x r=>rw [← h x (by simp),← h' x (by simp)]
include hT in
theorem tA (R:Rel C m s a.tmps w) {o:Oper} {t:TypeId} {x:Operand} {lo hi:Option Operand} (ho:o.op = .slice t x lo hi none) {ti:TI} (ht:T t=some ti) {r:OV} (h:ky T ti s.H (s.ev x) (lo.map s.ev) (hi.map s.ev)=some r) (hvc:r.vc) :
  r.H=s.H∧∃ v,(execOp a.eval o).run P w = .ok (.value v) w∧aH (Reads (OK C m s.H w) w) m s.H r.av v:=by
 have hx:=R.ev x
 have run:∀ (e:TypeId) (te:TI) (ad:Option Addr) (len cap p q:Nat),P.underlying t=some (.slice e)→T e=some te→a.eval x = .slice ad len cap →
   (Instr.sliceBounds true len cap (lo.map a.eval) (hi.map a.eval) none).run P w = .ok (p,q,cap) w →
   (execOp a.eval o).run P w = .ok (.value (.slice (if cap=p then ad else ad.map (·.add (p * te.size))) (q - p) (cap - p))) w:=by
  intro e te ad len cap p q hu hte hv hbd
  simp [execOp,ho,hv,Instr.sliceAt,Instr.slice,run_underlying hu,hbd,eR (hT _ _ hte)]
 unfold ky at h
 split at h
 ·rename_i e hk
  have hu:=cT (hT _ _ ht) hk
  split at h
  ·rename_i te hte
   split at h
   ·
    rename_i k l len hxe
    split at h<;>simp only [Option.some.injEq,reduceCtorEq] at h
    rename_i p q h1 h2
    subst h
    obtain ⟨g1,g2,g3,g4⟩:=hvc
    rw [hxe] at hx
    generalize hv:a.eval x=v at hx
    cases hx with
    | sl _ _ _ _ hk' hs =>
     rcases hs with ⟨h0,ad,rfl⟩ | ⟨l',cap,hm,rfl,hc1,hc2⟩
     ·subst h0
      have hbd:=ec (P:=P) (cap:=0) R h1 h2 g2 g3 g4 (Nat.le_refl _)
      refine ⟨rfl,_,run e te ad 0 0 p.toNat q.toNat hu hte hv hbd,.sl _ _ _ _ hk' <| .inl ⟨by omega,?_⟩⟩
      have:q.toNat - p.toNat=0:=by omega
      rw [this,Nat.zero_sub]
      exact ⟨_,rfl⟩
     have hbd:=ec (P:=P) (cap:=cap) R h1 h2 g2 g3 g4 hc1
     refine ⟨rfl,_,run e te _ len cap p.toNat q.toNat hu hte hv hbd,.sl _ _ _ _ hk' ?_⟩
     by_cases hcp:cap=p.toNat
     ·left
      have:q.toNat - p.toNat=0:=by omega
      rw [this,hcp,Nat.sub_self]
      exact ⟨rfl,_,rfl⟩
     right
     refine ⟨l',cap - p.toNat,hm,?_,by omega,by omega⟩
     rw [if_neg hcp,g1]
     simp only [Option.map_some,add_lit,Nat.mul_one,Nat.add_assoc]
   ·
    rename_i l hxe
    split at h<;>simp only [Option.some.injEq,reduceCtorEq] at h
    rename_i p q h1 h2
    subst h
    obtain ⟨g1,g2,g3,g4⟩:=hvc
    have g4:=u3 g4
    rw [hxe] at hx
    rcases hx.aQ.o5 with ⟨rfl,ad,cap,hv⟩ | ⟨b,off,cap,sz,vs,hv,hb,hsz,hcap,hc,hr⟩
    ·have hbd:=ec (P:=P) (len:=0) (cap:=cap) R h1 h2 g1 g2 g3 (Nat.zero_le _)
     simp only [List.length_nil] at g3
     have:q.toNat - p.toNat=0:=by omega
     refine ⟨rfl,_,run e te ad 0 cap p.toNat q.toNat hu hte hv hbd,.p _ _ ?_⟩
     rw [this]
     simp only [List.drop_nil,List.take_nil]
     refine .list0 _ _ fun h=>?_
     have h0:=Reads.zD (hv ▸ hx.aQ)
     cases ad with
     | none=>have:=h0 rfl; omega
     | some b=>split at h<;>cases h
    have hbd:=ec (P:=P) (cap:=cap) R h1 h2 g1 g2 g3 hcap
    refine ⟨rfl,_,run e te _ l.length cap p.toNat q.toNat hu hte hv hbd,.p _ _ ?_⟩
    have:=Reads.cut (p:=p.toNat) (q:=q.toNat) hb hsz hcap hc hr (by omega) (by omega)
    by_cases hcp:cap=p.toNat
    ·rw [if_pos hcp] at this ⊢; exact this
    rw [if_neg hcp] at this ⊢
    have e:p.toNat * te.size=p.toNat * sz:=by
     by_cases hl:l=[]
     ·have:p.toNat=0:=by subst hl; simp at g3; omega
      rw [this]; simp
     rw [qD hsz g4 hl]
    simp only [Option.map_some,add_lit,e]
    exact this
   ·
    rename_i l hxe
    rw [hxe] at hx
    split at h
    ·rename_i p h1 hhi
     simp only [Option.some.injEq] at h
     subst h
     have hhi' : hi=none:=by cases hi<;>simp at hhi ⊢
     obtain ⟨g1,g2,g3⟩:=hvc
     have g3:=u3 g3
     rcases hx.aQ.pg with ⟨rfl,ad,hv⟩ | ⟨b,off,sz,vs,hv,hb,hsz,hc,hr⟩
     ·have hbd:=ec (P:=P) (len:=0) (cap:=0) (hi:=none) R h1 rfl g1 (by simpa using g2) (by simp) (Nat.zero_le _)
      refine ⟨rfl,_,run e te _ 0 0 p.toNat 0 hu hte hv (by rw [hhi']; simpa using hbd),.p _ _ ?_⟩
      simp only [List.drop_nil]
      simp only [List.length_nil] at g2
      have hp0:p.toNat=0:=by omega
      rw [hp0]
      exact .nn0 _
     have hbd:=ec (P:=P) (len:=l.length) (cap:=l.length) (hi:=none) R h1 rfl g1 (by simpa using g2) (by simp) (Nat.le_refl _)
     refine ⟨rfl,_,run e te _ l.length l.length p.toNat l.length hu hte hv (by rw [hhi']; simpa using hbd),.p _ _ ?_⟩
     have:=Reads.GW (p:=p.toNat) hb hsz hc hr
     by_cases hcp:l.length=p.toNat
     ·rw [if_pos hcp] at this ⊢; exact this
     rw [if_neg hcp] at this ⊢
     have e:sz=te.size:=qD hsz g3 (by rintro rfl; simp at hcp g2; omega)
     simp only [Option.map_some,add_lit,← e]
     exact this
    ·rename_i p kk q h1 hhi
     simp only [Option.some.injEq] at h
     subst h
     obtain ⟨g1,g2,g3,g4⟩:=hvc
     have g4:=u3 g4
     have h2:∀ n:Nat,dU (n:Int) (hi.map s.ev)=some q:=fun n=>by rw [hhi]; rfl
     rcases hx.aQ.pg with ⟨rfl,ad,hv⟩ | ⟨b,off,sz,vs,hv,hb,hsz,hc,hr⟩
     ·have hbd:=ec (P:=P) (len:=0) (cap:=0) R h1 (h2 0) g1 g2 g3 (Nat.zero_le _)
      simp only [List.length_nil] at g3
      have:q.toNat - p.toNat=0:=by omega
      refine ⟨rfl,_,run e te _ 0 0 p.toNat q.toNat hu hte hv hbd,.p _ _ ?_⟩
      rw [this]
      simp only [List.drop_nil,List.take_nil]
      exact .list0 _ _ (by intro h; first|rfl|(simp at h; done)|(split at h<;>cases h))
     have hbd:=ec (P:=P) (len:=l.length) (cap:=l.length) R h1 (h2 _) g1 g2 g3 (Nat.le_refl _)
     refine ⟨rfl,_,run e te _ l.length l.length p.toNat q.toNat hu hte hv hbd,.p _ _ ?_⟩
     have:=Reads.cut (p:=p.toNat) (q:=q.toNat) hb hsz (Nat.le_refl _) hc hr (by omega) (by omega)
     by_cases hcp:l.length=p.toNat
     ·rw [if_pos hcp] at this ⊢; exact this
     rw [if_neg hcp] at this ⊢
     have e:sz=te.size:=qD hsz g4 (by rintro rfl; simp at hcp g3; omega)
     simp only [Option.map_some,add_lit,← e]
     exact this
    cases h
   cases h
  cases h
 cases h
end
open Go.RowKit
theorem cell_of {w:World} {g:Nat} {cur:Array Value} {e:TypeId} {fr:Nat × Nat} (h:w.heap[g]? = some (.cells cur e fr)) {j:Nat} (hj:j < cur.size):w.cell? ⟨g,j,none⟩=some (cur.getD j undef):=by
 simp [World.cell?,h,Array.getD_eq_getD_getElem?,Array.getElem?_eq_getElem hj]
theorem cells_one {p:PV} (h:p.one=true):p.cells=[p]:=by cases p<;>simp_all [PV.one,PV.cells]
section
variable {P:Program} {T:TypeId→Option TI} (hT:∀ t ti,T t=some ti→bq P t=some ti) {C:Ctx} {m:Map} {s:St} {a:Act} {w:World}
include hT in
theorem gW {t:TypeId} {ti:TI} (ht:T t=some ti) {b off:Nat} {f:Nat→Value} (hc:∀ j,j < (if da ti.kind then ti.size else 1)→w.cell? ⟨b,off + j,none⟩=some (f j)) :
  (loadVar t ⟨b,off,none⟩).run P w = .ok (if da ti.kind then .agg ((List.range ti.size).map f).toArray else f 0) w:=by
 have hag:=s9 (hT _ _ ht) w
 have hss:=eR (hT _ _ ht) w
 cases hr:da ti.kind<;>rw [hr] at hag hc
 ·have:=hc 0 (by simp)
  rw [Nat.add_zero] at this
  simp [loadVar,hag,run_load,this]
 have:=run_loadCells (P:=P) (w:=w) ⟨b,off,none⟩ ti.size f (fun j hj=>by rw [add_lit]; exact hc j (by simpa using hj))
 simp [loadVar,hag,hss,this]
include hT in
theorem pa (R:Rel C m s a.tmps w) {o:Oper} {t:TypeId} {x:Operand} (ho:o.op = .load t x) {ti:TI} (ht:T t=some ti) {r:OV} (h:iN ti s.H (s.ev x)=some r) (hvc:r.vc) :
  r.H=s.H∧∃ v,(execOp a.eval o).run P w = .ok (.value v) w∧aH (Reads (OK C m s.H w) w) m s.H r.av v:=by
 have hx:=R.ev x
 have run:∀ (b off:Nat) (v:Value),a.eval x = .pointer (some ⟨b,off,none⟩)→(loadVar t ⟨b,off,none⟩).run P w = .ok v w→(execOp a.eval o).run P w = .ok (.value v) w:=by
  intro b off v h1 h2
  simp [execOp,ho,h1,Instr.loadAt,Instr.sureAddr,h2]
 unfold iN at h
 split at h
 ·rename_i k i hxe
  rw [hxe] at hx
  generalize hv:a.eval x=v at hx
  cases hx with
  | ptr _ _ _ hk' hp =>
   split at h
   ·rename_i c hg
    obtain ⟨l',hm,rfl⟩:=hp
    rcases R.blk k c (bj hg) with ⟨_,hn⟩ | ⟨l,cur,e,hm2,hB,hh,hs1,_,hs2,hcells⟩
    ·rw [hm] at hn; cases hn
    rw [hm] at hm2; cases hm2
    have hcell:∀ j,i + j < c.length→w.cell? ⟨l'.g,l'.o + i + j,none⟩=some (cur.getD (l'.o + i + j) undef):=fun j hj=>cell_of hh (by omega)
    cases hrow:da ti.kind<;>rw [hrow] at h<;>simp only [cond_true,cond_false,Option.some.injEq] at h<;>subst h
    ·have hr:=gW (P:=P) (w:=w) hT ht (b:=l'.g) (off:=l'.o + i) (f:=fun j=>cur.getD (l'.o + i + j) undef) (by
      intro j hj
      rw [hrow] at hj
      simp at hj; subst hj
      exact hcell 0 (by simpa using hvc))
     rw [hrow] at hr
     refine ⟨rfl,_,run _ _ _ hv hr,?_⟩
     have:=hcells i hvc
     simpa [List.getD,List.getElem?_eq_getElem (show i < c.length from hvc)] using this
    simp only at hvc
    have hr:=gW (P:=P) (w:=w) hT ht (b:=l'.g) (off:=l'.o + i) (f:=fun j=>cur.getD (l'.o + i + j) undef) (by
     intro j hj
     rw [hrow] at hj
     simp at hj
     exact hcell j (by omega))
    rw [hrow] at hr
    refine ⟨rfl,_,run _ _ _ hv hr,jH ?_ ?_⟩
    ·simp only [List.size_toArray,List.length_map,List.length_range,List.length_take,List.length_drop]; omega
    intro j hj
    simp only [List.length_take,List.length_drop] at hj
    have:=hcells (i + j) (by omega)
    simp only [List.getElem_take,List.getElem_drop]
    have e:((List.range ti.size).map fun j=>cur.getD (l'.o + i + j) undef).toArray.getD j undef=cur.getD (l'.o + (i + j)) undef:=by
     have:j < ti.size:=by omega
     simp [Array.getD_eq_getD_getElem?,List.getElem?_map,List.getElem?_range this,Nat.add_assoc]
    rw [e]
    exact this
   ·rename_i c hg
    obtain ⟨l',hm,rfl⟩:=hp
    rcases R.fro k c (gj hg) with ⟨_,hn⟩ | ⟨l,vs,hm2,hB,hl,hcells⟩
    ·rw [hm] at hn; cases hn
    rw [hm] at hm2; cases hm2
    cases hrow:da ti.kind<;>rw [hrow] at h<;>simp only [cond_true,cond_false,Option.some.injEq] at h<;>subst h
    ·have hr:=gW (P:=P) (w:=w) hT ht (b:=l'.g) (off:=l'.o + i) (f:=fun j=>vs (i + j)) (by
      intro j hj
      rw [hrow] at hj
      simp at hj; subst hj
      exact (hcells i hvc).1)
     rw [hrow] at hr
     refine ⟨rfl,_,run _ _ _ hv hr,.p _ _ ?_⟩
     have:=(hcells i hvc).2
     simpa [List.getD,List.getElem?_eq_getElem (show i < c.length from hvc)] using this
    simp only at hvc
    have hr:=gW (P:=P) (w:=w) hT ht (b:=l'.g) (off:=l'.o + i) (f:=fun j=>vs (i + j)) (by
     intro j hj
     rw [hrow] at hj
     simp at hj
     rw [Nat.add_assoc]
     exact (hcells (i + j) (by omega)).1)
    rw [hrow] at hr
    refine ⟨rfl,_,run _ _ _ hv hr,.p _ _ (.agg _ _ ?_ ?_)⟩
    ·simp only [List.size_toArray,List.length_map,List.length_range,List.length_take,List.length_drop]; omega
    intro j hj
    simp only [List.length_take,List.length_drop] at hj
    have:=(hcells (i + j) (by omega)).2
    simp only [List.getElem_take,List.getElem_drop]
    have e:((List.range ti.size).map fun j=>vs (i + j)).toArray.getD j undef=vs (i + j):=by
     have:j < ti.size:=by omega
     simp [Array.getD_eq_getD_getElem?,List.getElem?_map,List.getElem?_range this]
    rw [e]
    exact this
   ·cases h
   ·cases h
   ·cases h
   cases h
 ·rename_i c hxe
  rw [hxe] at hx
  obtain ⟨b,ofs,vs,hv,hb,hc,hr'⟩:=hx.aQ.rB
  cases hrow:da ti.kind<;>rw [hrow] at h<;>simp only [cond_true,cond_false,Option.some.injEq] at h<;>subst h
  ·have hr:=gW (P:=P) (w:=w) hT ht (b:=b) (off:=ofs) (f:=vs) (by
    intro j hj
    rw [hrow] at hj
    simp at hj; subst hj
    exact hc 0 hvc)
   rw [hrow] at hr
   refine ⟨rfl,_,run _ _ _ hv hr,.p _ _ ?_⟩
   have h0:0 < c.length:=hvc
   have:=hr' 0 h0
   cases c with
   | nil=>simp at h0
   | cons x r=>simpa using this
  simp only at hvc
  have hr:=gW (P:=P) (w:=w) hT ht (b:=b) (off:=ofs) (f:=vs) (by
   intro j hj
   rw [hrow] at hj
   simp at hj
   exact hc j (by omega))
  rw [hrow] at hr
  refine ⟨rfl,_,run _ _ _ hv hr,.p _ _ (.agg _ _ ?_ ?_)⟩
  ·simp only [List.size_toArray,List.length_map,List.length_range,List.length_take]; omega
  intro j hj
  simp only [List.length_take] at hj
  have:=hr' j (by omega)
  simp only [List.getElem_take]
  have e:((List.range ti.size).map vs).toArray.getD j undef=vs j:=by
   have:j < ti.size:=by omega
   simp [Array.getD_eq_getD_getElem?,List.getElem?_map,List.getElem?_range this]
  rw [e]
  exact this
 cases h
theorem Au {ok:Nat→Prop} {x:AV} {n:Nat} (h:rM x=some n) {v:Value} (hv:aH (Reads ok w) m s.H x v):∃ ad cap,v = .slice ad n cap:=by
 unfold rM at h
 split at h<;>simp only [Option.some.injEq,reduceCtorEq] at h<;>subst h
 ·rename_i k lo len
  cases hv with
  | sl _ _ _ _ hk hs =>
   rcases hs with ⟨rfl,ad,rfl⟩ | ⟨l',cap,hm,rfl,_⟩
   ·exact ⟨_,_,rfl⟩
   exact ⟨_,_,rfl⟩
 ·obtain ⟨ad,cap,rfl,_⟩:=hv.aQ.tJ
  exact ⟨_,_,rfl⟩
 ·obtain ⟨ad,cap,rfl,_⟩:=hv.aQ.yo
  exact ⟨_,_,rfl⟩
 ·rw [hv.aQ.eP]
  exact ⟨_,_,rfl⟩
 obtain ⟨ad,cap,rfl⟩:=hv.aQ.zE
 exact ⟨_,_,rfl⟩
include hT in
theorem xI (R:Rel C m s a.tmps w) {o:Oper} {t:TypeId} {x:Operand} (ho:o.op = .call { callee:=.builtin .len,args:=#[x],argTypes:=#[t] }) {ti:TI} (ht:T t=some ti) {r:OV} (h:tC ti s.H (s.ev x)=some r) :
  r.H=s.H∧∃ v,(execOp a.eval o).run P w = .ok (.value v) w∧aH (Reads (OK C m s.H w) w) m s.H r.av v:=by
 obtain ⟨dst,op,type,pos,after,guard⟩:=o
 simp only at ho
 subst ho
 have hx:=R.ev x
 unfold tC at h
 split at h
 ·rename_i e hk
  have hu:=cT (hT _ _ ht) hk
  split at h<;>simp only [Option.some.injEq,reduceCtorEq] at h
  rename_i n hn
  subst h
  obtain ⟨ad,cap,hv⟩:=Au hn hx
  exact ⟨rfl,.int .i64 n,by simp [BigFrame.execOp_builtin,BigFrame.builtin_len,Builtin.len_,hv,run_underlying hu,goInt],.p _ _ (.int _ _)⟩
 ·rename_i hk
  have hu:=A4 (hT _ _ ht) hk
  split at h<;>simp only [Option.some.injEq,reduceCtorEq] at h
  rename_i b hb
  subst h
  rw [hb] at hx
  exact ⟨rfl,.int .i64 b.size,by simp [BigFrame.execOp_builtin,BigFrame.builtin_len,Builtin.len_,hx.aQ.nK,run_underlying hu,goInt],.p _ _ (.int _ _)⟩
 cases h
theorem yG (R:Rel C m s a.tmps w) {x:AV} {v:Value} (hv:aH (Reads (OK C m s.H w) w) m s.H x v) {p:Prop} {pv:PV} (h:uy s.H x=some (p,pv)) (hp:p):Reads (OK C m s.H w) w pv v:=by
 unfold uy at h
 split at h
 ·rename_i k i
  split at h<;>simp only [Option.some.injEq,Prod.mk.injEq,reduceCtorEq] at h
  rename_i c hg
  obtain ⟨rfl,rfl⟩:=h
  cases hv with
  | ptr _ _ _ hk' hp' =>
   obtain ⟨l',hm,rfl⟩:=hp'
   rcases R.fro k c (gj hg) with ⟨_,hn⟩ | ⟨l,vs,hm2,hB,hl,hcells⟩
   ·rw [hm] at hn; cases hn
   rw [hm] at hm2; cases hm2
   refine .ptr _ _ _ (fun j=>vs (i + j)) hB (fun j hj=>?_) fun j hj=>?_
   ·simp only [List.length_drop] at hj
    rw [Nat.add_assoc]; exact (hcells (i + j) (by omega)).1
   simp only [List.length_drop] at hj
   simp only [List.getElem_drop]
   exact (hcells (i + j) (by omega)).2
 ·simp only [Option.some.injEq,Prod.mk.injEq] at h
  obtain ⟨rfl,rfl⟩:=h
  exact hv.aQ
 cases h
theorem pM (R:Rel C m s a.tmps w):∀ (xs:List Operand) {p:Prop} {pvs:List PV},jo s.H (xs.map s.ev)=some (p,pvs)→p →
  pvs.length=xs.length∧∀ c (h:c < pvs.length),Reads (OK C m s.H w) w pvs[c] ((xs.map a.eval).toArray.getD c undef)
 | [],p,pvs,h,_=>by
  simp only [List.map_nil,jo,Option.some.injEq,Prod.mk.injEq] at h
  obtain ⟨_,rfl⟩:=h
  exact ⟨rfl,fun c h=>by simp at h⟩
 | x :: r,p,pvs,h,hp=>by
  simp only [List.map_cons,jo] at h
  split at h<;>simp only [Option.some.injEq,Prod.mk.injEq,reduceCtorEq] at h
  rename_i p1 v1 q1 l1 h1 h2
  obtain ⟨rfl,rfl⟩:=h
  obtain ⟨hl,hr⟩:=pM R r h2 hp.2
  refine ⟨by simp [hl],fun c hc=>?_⟩
  cases c with
  | zero=>simpa using yG R (R.ev x) h1 hp.1
  | succ c=>simpa using hr c (by simpa using hc)
theorem pj (R:Rel C m s a.tmps w) {o:Oper} {f:FuncId} {first caps:Array Operand} (ho:o.op = .makeFunc (.func f) first caps) (hfirst:first.isEmpty=true) {r:OV} (h:eH f s.H (caps.toList.map s.ev)=some r) (hvc:r.vc) :
  r.H=s.H∧∃ v,(execOp a.eval o).run P w = .ok (.value v) w∧aH (Reads (OK C m s.H w) w) m s.H r.av v:=by
 unfold eH at h
 split at h<;>simp only [Option.some.injEq,reduceCtorEq] at h
 rename_i p l hl
 subst h
 obtain ⟨h1,h2⟩:=pM R caps.toList hl hvc
 have hf:first = #[]:=by simpa using hfirst
 refine ⟨rfl,.func (.func f) #[] (caps.map a.eval),by simp [execOp,ho,hf,Instr.makeFunc],.p _ _ (.fn _ _ _ (by simp [h1]) fun c hc=>?_)⟩
 have:=h2 c hc
 have e:(caps.toList.map a.eval).toArray=caps.map a.eval:=by rw [← Array.toList_map,Array.toArray_toList]
 rwa [e] at this
end
open Go.RowKit
def bJ (m:Map) (k:Nat) (l:Option Loc):Map:=fun j=>if j=k then l else m j
theorem aN {α:Type} {l:List α} {x y:α} {k:Nat} (h:(l++[x])[k]? = some y):(k < l.length∧l[k]? = some y)∨(k=l.length∧x=y):=by
 by_cases hk:k < l.length
 ·left; exact ⟨hk,by rwa [List.getElem?_append_left hk] at h⟩
 right
 have hk2:k < (l++[x]).length:=(List.getElem?_eq_some_iff.1 h).1
 simp at hk2
 have e:k=l.length:=by omega
 subst e
 simp at h
 exact ⟨rfl,h⟩
section
variable {P:Program} {T:TypeId→Option TI} (hT:∀ t ti,T t=some ti→bq P t=some ti) {C:Ctx} {m:Map} {s:St} {a:Act} {w w' : World}
theorem Rel.mr (R:Rel C m s a.tmps w) (hb:Below w.heap.size w w') {cur:Array Value} {e:TypeId} (hg:w'.heap[w.heap.size]? = some (.cells cur e (0,0))) (hn:cur.size≤nu)
  {c:List AV} (hcl:c.length≤cur.size) (hcells:∀ j (h:j < c.length),aH (Reads (OK C m s.H w) w) m s.H c[j] (cur.getD j undef)) :
  Rel C (bJ m s.H.length (some ⟨w.heap.size,0,cur.size⟩)) { s with H:=s.H++[.own c] } a.tmps w':=by
 have hm:∀ k,k < s.H.length→bJ m s.H.length (some ⟨w.heap.size,0,cur.size⟩) k=m k:=fun k hk=>by simp [bJ,show k ≠ s.H.length by omega]
 have hmn:bJ m s.H.length (some ⟨w.heap.size,0,cur.size⟩) s.H.length=some ⟨w.heap.size,0,cur.size⟩:=by simp [bJ]
 have hlive:=hm
 have hlt:∀ k c' l,s.H[k]? = some (.own c')→m k=some l→l.g < w.heap.size:=by
  intro k c' l h hl
  rcases R.blk k c' h with ⟨_,hn⟩ | ⟨l',cur',e',hl',_,hg',_⟩
  ·rw [hl] at hn; cases hn
  rw [hl] at hl'; cases hl'
  exact (Array.getElem?_eq_some_iff.1 hg').1
 have hok:∀ b,OK C m s.H w b→∀ k c' l,(s.H++[.own c])[k]? = some (.own c')→bJ m s.H.length (some ⟨w.heap.size,0,cur.size⟩) k=some l→l.g ≠ b:=by
  intro b hb k c' l h hl
  rcases aN h with ⟨hk,h⟩ | ⟨rfl,_⟩
  ·rw [hm k hk] at hl; exact hb.2.2 k c' l h hl
  rw [hmn] at hl; cases hl; have:=hb.2.1; simp only; omega
 have hheap:∀ b,OK C m s.H w b→w'.heap[b]? = w.heap[b]?:=fun b h=>hb.block b h.2.1
 have ho:∀ b,OK C m s.H w b→OK C (bJ m s.H.length (some ⟨w.heap.size,0,cur.size⟩)) (s.H++[.own c]) w' b:=fun b h=>⟨h.1,Nat.lt_of_lt_of_le h.2.1 hb.size,hok b h⟩
 refine R.heap (hb.Hd R.base) (by simp) hlive hok hheap ?_ ?_ ?_ (rq rfl)
 ·intro k k' c1 c2 l l' h1 h2 h3 h4 h5
  rcases aN h1 with ⟨hk,h1⟩ | ⟨rfl,_⟩<;>rcases aN h2 with ⟨hk',h2⟩ | ⟨rfl,_⟩
  ·rw [hm _ hk] at h3; rw [hm _ hk'] at h4; exact R.inj k k' c1 c2 l l' h1 h2 h3 h4 h5
  ·rw [hm _ hk] at h3; rw [hmn] at h4; cases h4
   have:=hlt k c1 l h1 h3; simp only at h5; omega
  ·rw [hm _ hk'] at h4; rw [hmn] at h3; cases h3
   have:=hlt k' c2 l' h2 h4; simp only at h5; omega
  rfl
 ·intro k c' h
  rcases aN h with ⟨hk,h⟩ | ⟨rfl,h'⟩
  ·exact (R.blk k c' h).ext (fun p v h=>h.ext ho hheap) (by simp) hlive (hm k hk) fun l hl=>hb.block _ (hlt k c' l h hl)
  cases h'
  exact .inr ⟨_,cur,e,hmn,R.base _ (Nat.le_refl _),hg,rfl,hn,by simpa using hcl,fun j hj=>by
   have:=hcells j hj
   simp only [Nat.zero_add]
   exact this.ext (fun p v h=>h.ext ho hheap) (by simp) hlive⟩
 intro k c' h
 rcases aN h with ⟨hk,h⟩ | ⟨rfl,h'⟩
 ·exact (R.fro k c' h).ext ho hheap (hm k hk)
 cases h'
theorem Rel.qM (R:Rel C m s a.tmps w):Rel C (bJ m s.H.length none) { s with H:=s.H++[.own []] } a.tmps w:=by
 have hm:∀ k,k < s.H.length→bJ m s.H.length none k=m k:=fun k hk=>by simp [bJ,show k ≠ s.H.length by omega]
 have hmn:bJ m s.H.length none s.H.length=none:=by simp [bJ]
 have hlive:=hm
 have hok:∀ b,OK C m s.H w b→∀ k c' l,(s.H++[.own []])[k]? = some (.own c')→bJ m s.H.length none k=some l→l.g ≠ b:=by
  intro b hb k c' l h hl
  rcases aN h with ⟨hk,h⟩ | ⟨rfl,_⟩
  ·rw [hm k hk] at hl; exact hb.2.2 k c' l h hl
  rw [hmn] at hl; cases hl
 have ho:∀ b,OK C m s.H w b→OK C (bJ m s.H.length none) (s.H++[.own []]) w b:=fun b h=>⟨h.1,h.2.1,hok b h⟩
 refine R.heap (bZ.refl _ _) (by simp) hlive hok (fun _ _=>rfl) ?_ ?_ ?_ (rq rfl)
 ·intro k k' c1 c2 l l' h1 h2 h3 h4 h5
  rcases aN h1 with ⟨hk,h1⟩ | ⟨rfl,_⟩<;>rcases aN h2 with ⟨hk',h2⟩ | ⟨rfl,_⟩
  ·rw [hm _ hk] at h3; rw [hm _ hk'] at h4; exact R.inj k k' c1 c2 l l' h1 h2 h3 h4 h5
  ·rw [hmn] at h4; cases h4
  ·rw [hmn] at h3; cases h3
  rfl
 ·intro k c' h
  rcases aN h with ⟨hk,h⟩ | ⟨rfl,h'⟩
  ·exact (R.blk k c' h).ext (fun p v h=>h.ext ho fun _ _=>rfl) (by simp) hlive (hm k hk) fun l hl=>rfl
  cases h'; exact .inl ⟨rfl,hmn⟩
 intro k c' h
 rcases aN h with ⟨hk,h⟩ | ⟨rfl,h'⟩
 ·exact (R.fro k c' h).ext ho (fun _ _=>rfl) (hm k hk)
 cases h'
theorem aB:∀ (H:aw) (k:Nat) (b:aL),(aE H k b).length=H.length
 | [],_,_=>rfl
 | _ :: r,0,_=>rfl
 | _ :: r,k + 1,b=>by simp [aE,aB r k b]
theorem cr:∀ (H:aw) (k:Nat) (b:aL) (j:Nat),(aE H k b)[j]? = if j=k∧k < H.length then some b else H[j]?
 | [],k,b,j=>by simp [aE]
 | x :: r,0,b,j=>by cases j<;>simp [aE]
 | x :: r,k + 1,b,j=>by
  cases j with
  | zero=>simp [aE]
  | succ j=>simp [aE,cr r k b j]
theorem lB {H:aw} {k:Nat} {b:aL} (hb:b.Dz=false):∀ (j:Nat) (b' : aL),b'.Dz=true→(aE H k b)[j]? = some b'→H[j]? = some b':=fun j b' hs h=>by
 rw [cr] at h
 by_cases e:j=k∧k < H.length
 ·rw [if_pos e] at h; have e2:=Option.some.inj h; subst e2; rw [hb] at hs; cases hs
 rwa [if_neg e] at h
theorem Rel.uZ (R:Rel C m s a.tmps w) {k:Nat} {c c' : List AV} (hk:s.H[k]? = some (.own c)) {l:Loc} (hm:m k=some l) (hb:bZ C.B w w') (hoth:∀ b,b ≠ l.g→w'.heap[b]? = w.heap[b]?)
  {cur:Array Value} {e:TypeId} (hg:w'.heap[l.g]? = some (.cells cur e (0,0))) (hs:cur.size=l.n) (hcl:l.o + c'.length≤l.n)
  (hcells:∀ j (h:j < c'.length),aH (Reads (OK C m s.H w) w) m s.H c'[j] (cur.getD (l.o + j) undef)):Rel C m { s with H:=aE s.H k (.own c') } a.tmps w':=by
 have hkl:k < s.H.length:=(List.getElem?_eq_some_iff.1 hk).1
 have hBl:C.B l.g∧l.n≤nu:=by
  rcases R.blk k c hk with ⟨_,hn⟩ | ⟨l',cur',e',hl',hB,hg',h1,h2,_⟩
  ·rw [hm] at hn; cases hn
  rw [hm] at hl'; cases hl'; exact ⟨hB,h2⟩
 have aq:∀ j b,(aE s.H k (.own c'))[j]? = some b→(j=k∧b = .own c')∨(j ≠ k∧s.H[j]? = some b):=by
  intro j b h
  rw [cr] at h
  by_cases e:j=k
  ·rw [if_pos ⟨e,hkl⟩] at h; exact .inl ⟨e,(Option.some.inj h).symm⟩
  rw [if_neg (by simp [e])] at h; exact .inr ⟨e,h⟩
 have hlive:∀ j,j < s.H.length→m j=m j:=fun _ _=>rfl
 have hok:∀ b,OK C m s.H w b→∀ j d l,(aE s.H k (.own c'))[j]? = some (.own d)→m j=some l→l.g ≠ b:=by
  intro b hb j d l' h hl
  rcases aq j _ h with ⟨rfl,_⟩ | ⟨_,h⟩
  ·exact hb.2.2 j c l' hk hl
  exact hb.2.2 j d l' h hl
 have hheap:∀ b,OK C m s.H w b→w'.heap[b]? = w.heap[b]?:=fun b h=>hoth b (fun e=>h.2.2 k c l hk hm e.symm)
 have ho:∀ b,OK C m s.H w b→OK C m (aE s.H k (.own c')) w' b:=fun b h=>⟨h.1,Nat.lt_of_lt_of_le h.2.1 hb.size,hok b h⟩
 refine R.heap hb (by simp [aB]) hlive hok hheap ?_ ?_ ?_ (lB rfl)
 ·intro j j' c1 c2 l1 l2 h1 h2 h3 h4 h5
  have g:∀ (j:Nat) (d:List AV),(aE s.H k (.own c'))[j]? = some (aL.own d)→∃ d',s.H[j]? = some (aL.own d'):=by
   intro j d h
   rcases aq j _ h with ⟨rfl,_⟩ | ⟨_,h⟩
   ·exact ⟨c,hk⟩
   exact ⟨d,h⟩
  obtain ⟨d1,h1⟩:=g j c1 h1
  obtain ⟨d2,h2⟩:=g j' c2 h2
  exact R.inj j j' d1 d2 l1 l2 h1 h2 h3 h4 h5
 ·intro j d h
  rcases aq j _ h with ⟨rfl,h'⟩ | ⟨hne,h⟩
  ·cases h'
   exact .inr ⟨l,cur,e,hm,hBl.1,hg,hs,hBl.2,hcl,fun i hi=>(hcells i hi).ext (fun p v h=>h.ext ho hheap) (by simp [aB]) hlive⟩
  refine (R.blk j d h).ext (fun p v h=>h.ext ho hheap) (by simp [aB]) hlive rfl fun l' hl'=>hoth _ fun e'=>hne (R.inj j k d c l' l h hk hl' hm e')
 intro j d h
 rcases aq j _ h with ⟨rfl,h'⟩ | ⟨hne,h⟩
 ·cases h'
 exact (R.fro j d h).ext ho hheap rfl
theorem Rel.kill (R:Rel C m s a.tmps w) (k:Nat):Rel C m { s with H:=aE s.H k .dead } a.tmps w:=by
 have aq:∀ (j:Nat) (b:aL),(aE s.H k .dead)[j]? = some b→b ≠ .dead→s.H[j]? = some b:=by
  intro j b h hne
  rw [cr] at h
  by_cases e:j=k∧k < s.H.length
  ·rw [if_pos e] at h; exact absurd (Option.some.inj h).symm hne
  rwa [if_neg e] at h
 have hlive:∀ j,j < s.H.length→m j=m j:=fun _ _=>rfl
 have hok:∀ b,OK C m s.H w b→∀ j d l,(aE s.H k .dead)[j]? = some (.own d)→m j=some l→l.g ≠ b:=fun b hb j d l h hl=>hb.2.2 j d l (aq j _ h (by simp)) hl
 have ho:∀ b,OK C m s.H w b→OK C m (aE s.H k .dead) w b:=fun b h=>⟨h.1,h.2.1,hok b h⟩
 refine R.heap (bZ.refl _ _) (by simp [aB]) hlive hok (fun _ _=>rfl) ?_ ?_ ?_ (lB rfl)
 ·exact fun j j' c1 c2 l1 l2 h1 h2 h3 h4 h5=>R.inj j j' c1 c2 l1 l2 (aq j _ h1 (by simp)) (aq j' _ h2 (by simp)) h3 h4 h5
 ·exact fun j d h=>(R.blk j d (aq j _ h (by simp))).ext (fun p v h=>h.ext ho fun _ _=>rfl) (by simp [aB]) hlive rfl fun _ _=>rfl
 exact fun j d h=>(R.fro j d (aq j _ h (by simp))).ext ho (fun _ _=>rfl) rfl
theorem Rel.vf (R:Rel C m s a.tmps w) {k:Nat} {c c' : List AV} (hk:s.H[k]? = some (.own c)) {l' : Loc} (hb:bZ C.B w w')
  (hoth:∀ b,b < w.heap.size→(∀ l,m k=some l→b ≠ l.g)→w'.heap[b]? = w.heap[b]?)
  (hl' : (∃ l,m k=some l∧l'.g=l.g)∨w.heap.size≤l'.g)
  {cur:Array Value} {e:TypeId} (hg:w'.heap[l'.g]? = some (.cells cur e (0,0))) (hs:cur.size=l'.n) (hn:l'.n≤nu) (hcl:l'.o + c'.length≤l'.n)
  (hcells:∀ j (h:j < c'.length),aH (Reads (OK C m s.H w) w) m s.H c'[j] (cur.getD (l'.o + j) undef)) :
  Rel C (bJ m s.H.length (some l')) { s with H:=aE s.H k .dead++[.own c'] } a.tmps w':=by
 have hkl:k < s.H.length:=(List.getElem?_eq_some_iff.1 hk).1
 have hlt:∀ k c' l,s.H[k]? = some (.own c')→m k=some l→C.B l.g∧l.g < w.heap.size:=by
  intro k c' l h hl
  rcases R.blk k c' h with ⟨_,hn⟩ | ⟨l',cur',e',hl',hB,hg',_⟩
  ·rw [hl] at hn; cases hn
  rw [hl] at hl'; cases hl'
  exact ⟨hB,(Array.getElem?_eq_some_iff.1 hg').1⟩
 have aq:∀ j b,(aE s.H k .dead++[.own c'])[j]? = some b→b ≠ .dead→(j=s.H.length∧b = .own c')∨(j < s.H.length∧j ≠ k∧s.H[j]? = some b):=by
  intro j b h hne
  rcases aN h with ⟨hj,h⟩ | ⟨e,h⟩
  ·rw [aB] at hj
   rw [cr] at h
   by_cases e:j=k
   ·rw [if_pos ⟨e,hkl⟩] at h; exact absurd (Option.some.inj h).symm hne
   rw [if_neg (by simp [e])] at h; exact .inr ⟨hj,e,h⟩
  rw [aB] at e; exact .inl ⟨e,h.symm⟩
 have hm:∀ j,j < s.H.length→bJ m s.H.length (some l') j=m j:=fun j hj=>by simp [bJ,show j ≠ s.H.length by omega]
 have hmn:bJ m s.H.length (some l') s.H.length=some l':=by simp [bJ]
 have hlive:=hm
 have hok:∀ b,OK C m s.H w b→∀ j d l,(aE s.H k .dead++[.own c'])[j]? = some (.own d)→bJ m s.H.length (some l') j=some l→l.g ≠ b:=by
  intro b hb j d l2 h hl
  rcases aq j _ h (by simp) with ⟨rfl,_⟩ | ⟨hj,_,h⟩
  ·rw [hmn] at hl; cases hl
   rcases hl' with ⟨l,hml,e⟩ | h'
   ·rw [e]; exact hb.2.2 k c l hk hml
   have:=hb.2.1; omega
  rw [hm j hj] at hl; exact hb.2.2 j d l2 h hl
 have hheap:∀ b,OK C m s.H w b→w'.heap[b]? = w.heap[b]?:=fun b h=>hoth b h.2.1 fun l hl e=>h.2.2 k c l hk hl e.symm
 have ho:∀ b,OK C m s.H w b→OK C (bJ m s.H.length (some l')) (aE s.H k .dead++[.own c']) w' b:=fun b h=>⟨h.1,Nat.lt_of_lt_of_le h.2.1 hb.size,hok b h⟩
 have hlen:s.H.length≤(aE s.H k .dead++[aL.own c']).length:=by simp [aB]
 have hB' : C.B l'.g:=by
  rcases hl' with ⟨l,hml,e⟩ | h'
  ·rw [e]; exact (hlt k c l hk hml).1
  exact R.base _ h'
 refine R.heap hb hlen hlive hok hheap ?_ ?_ ?_ (fun j b hb h=>lB rfl j b hb (rq rfl j b hb h))
 ·intro j j' c1 c2 l1 l2 h1 h2 h3 h4 h5
  have far:∀ (j:Nat) (d:List AV) (l:Loc),j ≠ k→s.H[j]? = some (aL.own d)→m j=some l→l.g ≠ l'.g:=by
   intro j d l hne h hl e'
   rcases hl' with ⟨l0,hml,e⟩ | h'
   ·exact hne (R.inj j k d c l l0 h hk hl hml (by rw [e',e]))
   have:=(hlt j d l h hl).2; omega
  rcases aq j _ h1 (by simp) with ⟨rfl,_⟩ | ⟨hj,hne,h1⟩<;>rcases aq j' _ h2 (by simp) with ⟨rfl,_⟩ | ⟨hj',hne',h2⟩
  ·rfl
  ·rw [hmn] at h3; cases h3; rw [hm _ hj'] at h4; exact absurd h5.symm (far j' c2 l2 hne' h2 h4)
  ·rw [hmn] at h4; cases h4; rw [hm _ hj] at h3; exact absurd h5 (far j c1 l1 hne h1 h3)
  rw [hm _ hj] at h3; rw [hm _ hj'] at h4; exact R.inj j j' c1 c2 l1 l2 h1 h2 h3 h4 h5
 ·intro j d h
  rcases aq j _ h (by simp) with ⟨rfl,h'⟩ | ⟨hj,hne,h⟩
  ·cases h'
   exact .inr ⟨l',cur,e,hmn,hB',hg,hs,hn,hcl,fun i hi=>(hcells i hi).ext (fun p v h=>h.ext ho hheap) hlen hlive⟩
  refine (R.blk j d h).ext (fun p v h=>h.ext ho hheap) hlen hlive (hm j hj) fun l2 hl2=>hoth _ (hlt j d l2 h hl2).2 fun l hml e'=>hne (R.inj j k d c l2 l h hk hl2 hml e')
 intro j d h
 rcases aq j _ h (by simp) with ⟨rfl,h'⟩ | ⟨hj,hne,h⟩
 ·cases h'
 exact (R.fro j d h).ext ho hheap (hm j hj)
end
open Go.RowKit
section
variable {P:Program} {T:TypeId→Option TI} (hT:∀ t ti,T t=some ti→bq P t=some ti) {C:Ctx} {m:Map} {s:St} {a:Act} {w w' : World}
theorem kI {ok:Nat→Prop} {x:AV} {v:Value} (h:bp x=true) (hv:aH (Reads ok w) m s.H x v):v.oneCell' = true∧v.cells = #[v]:=by
 cases hv with
 | p pv v hr=>exact hr.one h
 | sl k lo len v hk hs =>
  rcases hs with ⟨_,ad,rfl⟩ | ⟨l,cap,_,rfl,_⟩<;>exact ⟨rfl,rfl⟩
 | ptr k i v hk hs =>
  obtain ⟨l,_,rfl⟩:=hs
  exact ⟨rfl,rfl⟩
 | mptr k v hk hs =>
  obtain ⟨l,_,rfl⟩:=hs
  exact ⟨rfl,rfl⟩
 | yv k l vs v hk hs hl hr =>
  obtain ⟨l,_,rfl⟩:=hs
  exact ⟨rfl,rfl⟩
 | cl f l vs hl hr=>exact ⟨rfl,rfl⟩
 | sls k lo len sz v hk hs =>
  rcases hs with ⟨_,rfl⟩ | ⟨l,cap,_,rfl,_⟩<;>exact ⟨rfl,rfl⟩
 | _=>simp [bp] at h
theorem jK {ok:Nat→Prop} {x:AV} {v:Value} (h:x.cells.all bp=true) (hv:aH (Reads ok w) m s.H x v) :
  v.cells.size=x.cells.length∧(∀ j (h:j < x.cells.length),aH (Reads ok w) m s.H x.cells[j] (v.cells.getD j undef))∧∀ u∈v.cells.toList,u.oneCell' = true:=by
 have key:∀ vs:Array Value,v.cells=vs→vs.size=x.cells.length→(∀ j (h:j < x.cells.length),aH (Reads ok w) m s.H x.cells[j] (vs.getD j undef)) →
   v.cells.size=x.cells.length∧(∀ j (h:j < x.cells.length),aH (Reads ok w) m s.H x.cells[j] (v.cells.getD j undef))∧∀ u∈v.cells.toList,u.oneCell' = true:=by
  intro vs e hs hj
  rw [e]
  refine ⟨hs,hj,fun u hu=>?_⟩
  obtain ⟨j,hj',rfl⟩:=List.getElem_of_mem hu
  have hlt:j < x.cells.length:=by simpa [hs] using hj'
  have h1:=hj j hlt
  have h2:=(List.all_eq_true.1 h) x.cells[j] (List.getElem_mem hlt)
  have e:vs.getD j undef=vs.toList[j]:=by simp [Array.getD_eq_getD_getElem?,Array.getElem?_eq_getElem (show j < vs.size by omega)]
  rw [e] at h1
  exact (kI h2 h1).1
 by_cases hx:x.isAgg=true
 ·obtain ⟨vs,rfl,hs,hj⟩:=hv.wU rfl hx
  exact key vs rfl hs hj
 have e:x.cells=[x]:=by
  cases x with
  | p pv=>cases pv<;>simp_all [AV.isAgg,AV.cells]
  | agg l=>simp [AV.isAgg] at hx
  | _=>rfl
 rw [e] at h key
 have h1:bp x=true:=by simpa using h
 have h2:=kI h1 hv
 rw [e]
 refine key #[v] h2.2 rfl fun j hj=>?_
 have:j=0:=by simpa using hj
 subst this
 exact hv
theorem gz (c:List AV) (i:Nat) (xs:List AV) (h:i + xs.length≤c.length):(iy c i xs).length=c.length:=by
 unfold iy
 split
 ·simp
 simp only [List.length_append,List.length_take,List.length_drop]; omega
theorem zr (c:List AV) (i:Nat) (xs:List AV) (h:i + xs.length≤c.length) (j:Nat):(iy c i xs)[j]? = if i≤j∧j < i + xs.length then xs[j - i]? else c[j]?:=by
 unfold iy
 split
 ·rename_i x
  simp only [List.length_cons,List.length_nil] at h ⊢
  rw [List.getElem?_set]
  by_cases e:i=j
  ·subst e; rw [if_pos rfl,if_pos (by omega),if_pos (by omega)]; simp
  rw [if_neg e,if_neg (by omega)]
 by_cases h1:j < i
 ·rw [if_neg (by omega),List.append_assoc,List.getElem?_append_left (by simp only [List.length_take]; omega),List.getElem?_take,if_pos h1]
 rw [List.append_assoc,List.getElem?_append_right (by simp only [List.length_take]; omega)]
 simp only [List.length_take,Nat.min_eq_left (show i≤c.length by omega)]
 by_cases h2:j < i + xs.length
 ·rw [if_pos (by omega),List.getElem?_append_left (by omega)]
 rw [if_neg (by omega),List.getElem?_append_right (by omega),List.getElem?_drop]
 congr 1; omega
theorem n4 {ok:Nat→Prop} {c xs:List AV} {i:Nat} (h:i + xs.length≤c.length) {f:Nat→Value} (h1:∀ j (hj:j < c.length),¬ (i≤j∧j < i + xs.length)→aH (Reads ok w) m s.H c[j] (f j))
  (h2:∀ j (hj:j < xs.length),aH (Reads ok w) m s.H xs[j] (f (i + j))):∀ j (hj:j < (iy c i xs).length),aH (Reads ok w) m s.H (iy c i xs)[j] (f j):=by
 intro j hj
 have hl:=gz c i xs h
 have e:=zr c i xs h j
 rw [List.getElem?_eq_getElem hj] at e
 by_cases hb:i≤j∧j < i + xs.length
 ·rw [if_pos hb,List.getElem?_eq_getElem (by omega)] at e
  rw [Option.some.inj e]
  have:=h2 (j - i) (by omega)
  rwa [show i + (j - i)=j by omega] at this
 rw [if_neg hb,List.getElem?_eq_getElem (by omega)] at e
 rw [Option.some.inj e]
 exact h1 j (by omega) hb
theorem oS {x y z:List Value} {j:Nat} : ((x++y++z).toArray).getD j undef=if j < x.length then x.getD j undef else if j < x.length + y.length then y.getD (j - x.length) undef else z.getD (j - x.length - y.length) undef:=by
 simp only [Array.getD_eq_getD_getElem?,List.getElem?_toArray,List.getD]
 by_cases h1:j < x.length
 ·rw [if_pos h1,List.append_assoc,List.getElem?_append_left h1]
 rw [if_neg h1,List.append_assoc,List.getElem?_append_right (by omega)]
 by_cases h2:j < x.length + y.length
 ·rw [if_pos h2,List.getElem?_append_left (by omega)]
 rw [if_neg h2,List.getElem?_append_right (by omega)]
theorem eV {cur:Array Value} {vs:List Value} {o j:Nat} (h:o + vs.length≤cur.size) :
  ((cur.toList.take o++vs++cur.toList.drop (o + vs.length)).toArray).getD j undef=if o≤j∧j < o + vs.length then vs.getD (j - o) undef else cur.getD j undef:=by
 rw [oS]
 have hl:(cur.toList.take o).length=o:=by simp only [List.length_take,Array.length_toList]; omega
 rw [hl]
 by_cases h1:j < o
 ·rw [if_pos h1,if_neg (by omega)]
  simp only [List.getD,List.getElem?_take,h1,if_true,Array.getD_eq_getD_getElem?,Array.getElem?_toList]
 rw [if_neg h1]
 by_cases h2:j < o + vs.length
 ·rw [if_pos h2,if_pos (by omega)]
 rw [if_neg h2,if_neg (by omega)]
 simp only [List.getD,List.getElem?_drop,Array.getD_eq_getD_getElem?,Array.getElem?_toList]
 congr 2; omega
include hT in
theorem sS (R:Rel C m s a.tmps w) {o:Oper} {t:TypeId} {x y:Operand} (ho:o.op = .store t x y) {ti:TI} (ht:T t=some ti) {r:OV} (h:j8 ti s.H (s.ev y) (s.ev x)=some r) (hvc:r.vc) :
  ∃ v w' m',Yields P o a w v w'∧Rel C m' { s with H:=r.H } a.tmps w'∧aH (Reads (OK C m' r.H w') w') m' r.H r.av v:=by
 have hx:=R.ev x
 have hy:=R.ev y
 unfold j8 at h
 split at h
 ·rename_i k i hxe
  rw [hxe] at hx
  generalize hv:a.eval x=v at hx
  cases hx with
  | ptr _ _ _ hk' hp =>
   split at h<;>simp only [Option.some.injEq,reduceCtorEq] at h
   rename_i c hg
   subst h
   obtain ⟨g1,g2,g3⟩:=hvc
   obtain ⟨l,hm,rfl⟩:=hp
   rcases R.blk k c (bj hg) with ⟨_,hn⟩ | ⟨l',cur,e,hm2,hB,hh,hs1,hs3,hs2,hcells⟩
   ·rw [hm] at hn; cases hn
   rw [hm] at hm2; cases hm2
   obtain ⟨v1,v2,v3⟩:=jK g2 hy
   have hlen:(a.eval y).cells.toList.length=(s.ev y).cells.length:=by simpa using v1
   have hst:=run_storeCells_at P l.g (l.o + i) e (a.eval y).cells.toList 0 cur w hh (by omega) v3
   simp only [Nat.add_zero] at hst
   have hrun:(execOp a.eval o).run P w = .ok .skip (w.setRow l.g (cur.toList.take (l.o + i)++(a.eval y).cells.toList++cur.toList.drop (l.o + i + (a.eval y).cells.toList.length)).toArray):=by
    have hsz:=eR (hT _ _ ht) w
    have hne:¬ ((a.eval y).cells.size ≠ ti.size):=by simp [v1,g1]
    simp only [execOp,ho,Instr.storeAt,hv,Instr.sureAddr,storeVar,Sem.run_bind,Sem.run_pure,Result.andThen_ok,hsz,hne,if_false,hst]
   refine ⟨undef,_,m,.inr ⟨hrun,rfl⟩,?_,.dead _⟩
   refine R.uZ (bj hg) hm ?_ ?_ (setRow_heap w l.g cur _ e _ hh) ?_ ?_ ?_
   ·exact ⟨rfl,rfl,rfl,by simp [World.setRow],fun b hb=>setRow_other w l.g b _ (fun e=>hb (by rw [e]; exact hB)),Nat.le_refl _⟩
   ·exact fun b hb=>setRow_other w l.g b _ hb
   ·simp only [List.size_toArray,List.length_append,List.length_take,List.length_drop,Array.length_toList] at hlen ⊢
    omega
   ·rw [gz _ _ _ g3]; exact hs2
   refine n4 g3 (fun j hj hn=>?_) fun j hj=>?_
   ·rw [eV (by omega),if_neg (by omega)]
    exact hcells j hj
   rw [eV (by omega),if_pos (by omega)]
   have:=v2 j hj
   have e2:(a.eval y).cells.toList.getD (l.o + (i + j) - (l.o + i)) undef=(a.eval y).cells.getD j undef:=by
    rw [show l.o + (i + j) - (l.o + i)=j by omega]
    simp [List.getD,Array.getD_eq_getD_getElem?]
   rw [e2]
   exact this
 cases h
theorem vE {H:aw} {c:List AV} {n:Nat} : aH (Reads (OK C (bJ m H.length (some ⟨w.heap.size,0,n⟩)) (H++[.own c]) w') w') (bJ m H.length (some ⟨w.heap.size,0,n⟩)) (H++[.own c]) (.ptr H.length 0) (.pointer (some ⟨w.heap.size,0,none⟩)):=
 .ptr _ _ _ (by simp) ⟨⟨w.heap.size,0,n⟩,by simp [bJ],rfl⟩
theorem dp (o:Obj):Below w.heap.size w (w.alloc o):=(Below.refl _ _).alloc (Nat.le_refl _) o
include hT in
theorem mJ (R:Rel C m s a.tmps w) {o:Oper} {t:TypeId} (ho:o.op = .alloc t) {ti:TI} (ht:T t=some ti) (hvc:(gH ti s.H).vc) :
  ∃ v w' m',Yields P o a w v w'∧Rel C m' { s with H:=(gH ti s.H).H } a.tmps w'∧aH (Reads (OK C m' (gH ti s.H).H w') w') m' (gH ti s.H).H (gH ti s.H).av v:=by
 obtain ⟨i,d,z,h1,h2,h3,h4,h5,h6,h7,h8⟩:=aZ (hT _ _ ht)
 have hvc:ti.zero.length≤1000000:=hvc
 have hz:z.cells.size=ti.zero.length:=by rw [← h6]; simp
 refine ⟨.pointer (some ⟨w.heap.size,0,none⟩),w.alloc (.cells z.cells t),_,.inl ?_,R.mr (dp _) (cur:=z.cells) (e:=t) (heap_alloc_new w _) (oE (by unfold maxLen; omega)) (c:=ti.zero.map cv) (by simp [hz]) ?_,vE⟩
 ·simp [execOp,ho,Instr.alloc,zeroValue,typeInfo,h1,h3,newVar,newRow]
 intro j hj
 simp only [List.length_map] at hj
 have e:z.cells.getD j undef=ti.zero[j]:=by
  have:ti.zero[j]? = z.cells[j]?:=by rw [← h6]; simp
  rw [List.getElem?_eq_getElem hj] at this
  simp [Array.getD_eq_getD_getElem?,← this]
 rw [List.getElem_map,e]
 exact oU _
theorem w6 (R:Rel C m s a.tmps w) {o:Oper} {t:TypeId} {x:Operand} (ho:o.op = .box t x) (hvc:(uu s.H (s.ev x)).vc) :
  ∃ v w' m',Yields P o a w v w'∧Rel C m' { s with H:=(uu s.H (s.ev x)).H } a.tmps w'∧aH (Reads (OK C m' (uu s.H (s.ev x)).H w') w') m' (uu s.H (s.ev x)).H (uu s.H (s.ev x)).av v:=by
 obtain ⟨g1,g2⟩:=hvc
 obtain ⟨v1,v2,v3⟩:=jK g1 (R.ev x)
 refine ⟨.pointer (some ⟨w.heap.size,0,none⟩),w.alloc (.cells (a.eval x).cells t),_,.inl ?_,R.mr (dp _) (cur:=(a.eval x).cells) (e:=t) (heap_alloc_new w _) (oE (by unfold maxLen; omega)) (c:=(s.ev x).cells) (by omega) v2,vE⟩
 simp [execOp,ho,Instr.box,newVar,newRow]
include hT in
theorem nc (R:Rel C m s a.tmps w) {o:Oper} {t:TypeId} {x y:Operand} (ho:o.op = .makeSlice t x y) {ti:TI} (ht:T t=some ti) {r:OV} (h:fV T ti s.H (s.ev x) (s.ev y)=some r) (hvc:r.vc) :
  ∃ v w' m',Yields P o a w v w'∧Rel C m' { s with H:=r.H } a.tmps w'∧aH (Reads (OK C m' r.H w') w') m' r.H r.av v:=by
 unfold fV at h
 split at h
 ·rename_i e k1 n k2 c hk hx hy
  have ex:=eY R hx
  have ey:=eY R hy
  have hu:=cT (hT _ _ ht) hk
  split at h
  ·rename_i te hte
   split at h<;>simp only [Option.some.injEq,reduceCtorEq] at h
   rename_i z hz
   subst h
   obtain ⟨g1,g2,g3,g4,g5⟩:=hvc
   obtain ⟨i,d,z',h1,h2,h3,h4,h5,h6,h7,h8⟩:=aZ (hT _ _ hte)
   have hzc:z'.cells = #[z]:=by
    rw [hz] at h6
    have:=congrArg List.toArray h6
    simpa using this
   have hr:=run_make (P:=P) w t e i z' hu h1 h3 k1 k2 n c g2 g3 (by rw [h5,Int.mul_comm]; omega) (by omega)
   rw [h4,g1,Nat.mul_one,hzc] at hr
   have hms:(madeCells #[z] c.toNat).size=c.toNat:=size_madeCells _ _
   have hrel:=R.mr (dp _) (cur:=madeCells #[z] c.toNat) (e:=e) (heap_alloc_new w _) (oE (by unfold maxLen; omega)) (c:=List.replicate n.toNat (cv z)) (by simp [hms]; omega) (by
    intro j hj
    simp only [List.length_replicate] at hj
    have:(madeCells #[z] c.toNat).getD j undef=z:=by
     have:=toList_madeCells_one z c.toNat
     have e:(madeCells #[z] c.toNat)[j]? = some z:=by
      rw [← Array.getElem?_toList,this,List.getElem?_replicate,if_pos (by omega)]
     simp [Array.getD_eq_getD_getElem?,e]
    rw [this,List.getElem_replicate]
    exact oU _)
   refine ⟨_,_,_,.inl (by simp only [execOp,ho,ex,ey,Sem.run_bind,hr,Result.andThen_ok,Sem.run_pure]),hrel,.sl _ _ _ _ (by simp) <| .inr ⟨⟨w.heap.size,0,(madeCells #[z] c.toNat).size⟩,c.toNat,by simp [bJ],rfl,by omega,by simp [hms]⟩⟩
  cases h
 cases h
end
open Go.RowKit
section
variable {P:Program} {T:TypeId→Option TI} (hT:∀ t ti,T t=some ti→bq P t=some ti) {C:Ctx} {m:Map} {s:St} {a:Act} {w w' : World}
def Src (P:Program) (w:World) (x:Value) (news:List Value):Prop:=
 (∃ ax cx,x = .slice ax news.length cx)∧∀ w2:World,w2.heap=w.heap→(Builtin.firstCells 1 news.length x).run P w2 = .ok news.toArray w2
theorem oT {w:World} {b:Addr} {cx:Nat} {news:List Value} (h:∀ j u,news[j]? = some u→w.cell? (b.add j)=some u):Src P w (.slice (some b) news.length cx) news:=by
 refine ⟨⟨_,_,rfl⟩,fun w2 h2=>?_⟩
 exact run_firstCells_some (P:=P) w2 1 news.length b news.length cx news (by simp) (fun j u hj=>by
  have:=h j u hj
  unfold World.cell? at this ⊢
  rw [h2]; exact this)
theorem jQ {w:World} {ax:Option Addr} {cx:Nat} : Src P w (.slice ax 0 cx) []:=by
 refine ⟨⟨_,_,rfl⟩,fun w2 h2=>?_⟩
 cases ax with
 | none=>rfl
 | some b=>exact run_firstCells_some (P:=P) w2 1 0 b 0 cx [] rfl (by simp)
theorem iq {l:List PV} (h:l.all PV.one=true):flat l=l:=sP l (fun x hx=>(List.all_eq_true.1 h) x hx)
theorem fP (R:Rel C m s a.tmps w) {x:Operand} {p:Prop} {xs:List AV} (h:cY s.H (s.ev x)=some (p,xs)) (hp:p) :
  ∃ news,Src P w (a.eval x) news∧news.length=xs.length∧∀ j (hj:j < xs.length),aH (Reads (OK C m s.H w) w) m s.H xs[j] (news.getD j undef):=by
 have hx:=R.ev x
 generalize s.ev x=ax at h hx
 generalize a.eval x=v at hx
 have lst:∀ (l:List PV) (b off:Nat) (vs:Nat→Value) (cap:Nat),l.all PV.one=true→(∀ c,c < (flat l).length→w.cell? ⟨b,off + c,none⟩=some (vs c))→(∀ c (h:c < (flat l).length),Reads (OK C m s.H w) w (flat l)[c] (vs c)) →
   ∃ news,Src P w (.slice (some ⟨b,off,none⟩) l.length cap) news∧news.length=(l.map AV.p).length∧∀ j (hj:j < (l.map AV.p).length),aH (Reads (OK C m s.H w) w) m s.H (l.map AV.p)[j] (news.getD j undef):=by
  intro l b off vs cap h1 hc hr
  have hf:=iq h1
  simp only [hf] at hc hr
  have hl:((List.range l.length).map vs).length=l.length:=by simp
  refine ⟨(List.range l.length).map vs,?_,by simp,fun j hj=>?_⟩
  ·have:=oT (P:=P) (w:=w) (b:=⟨b,off,none⟩) (cx:=cap) (news:=(List.range l.length).map vs) (fun j u hj=>by
    have hjl:j < l.length:=by have:=(List.getElem?_eq_some_iff.1 hj).1; simpa using this
    simp only [List.getElem?_map,List.getElem?_range hjl,Option.map_some,Option.some.injEq] at hj
    subst hj
    rw [add_lit]; exact hc j hjl)
   rwa [hl] at this
  simp only [List.length_map] at hj
  simp only [List.getElem_map]
  have e:((List.range l.length).map vs).getD j undef=vs j:=by simp [List.getD,List.getElem?_map,List.getElem?_range hj]
  rw [e]
  exact .p _ _ (hr j hj)
 unfold cY at h
 split at h
 ·rename_i k lo len
  cases hx with
  | sl _ _ _ _ hk' hs =>
   split at h<;>simp only [Option.some.injEq,Prod.mk.injEq,reduceCtorEq] at h
   ·rename_i c hg
    obtain ⟨rfl,rfl⟩:=h
    have hlen:((c.drop lo).take len).length=len:=by simp only [List.length_take,List.length_drop]; omega
    rcases hs with ⟨rfl,ad,rfl⟩ | ⟨l,cap,hm,rfl,hc1,hc2⟩
    ·exact ⟨[],jQ,by simp,fun j hj=>by simp at hj⟩
    rcases R.blk k c (bj hg) with ⟨_,hn⟩ | ⟨l',cur,e,hm2,hB,hh,hs1,hs3,hs2,hcells⟩
    ·rw [hm] at hn; cases hn
    rw [hm] at hm2; cases hm2
    refine ⟨(List.range len).map fun j=>cur.getD (l.o + lo + j) undef,?_,by simp [hlen],fun j hj=>?_⟩
    ·have:=oT (P:=P) (w:=w) (b:=⟨l.g,l.o + lo,none⟩) (cx:=cap) (news:=(List.range len).map fun j=>cur.getD (l.o + lo + j) undef) (fun j u hj=>by
      have hjl:j < len:=by have:=(List.getElem?_eq_some_iff.1 hj).1; simpa using this
      simp only [List.getElem?_map,List.getElem?_range hjl,Option.map_some,Option.some.injEq] at hj
      subst hj
      rw [add_lit]; exact cell_of hh (by omega))
     simpa using this
    rw [hlen] at hj
    simp only [List.getElem_take,List.getElem_drop]
    have e:((List.range len).map fun j=>cur.getD (l.o + lo + j) undef).getD j undef=cur.getD (l.o + (lo + j)) undef:=by
     simp [List.getD,List.getElem?_map,List.getElem?_range hj,Nat.add_assoc]
    rw [e]
    exact hcells (lo + j) (by omega)
   rename_i c hg
   obtain ⟨rfl,rfl⟩:=h
   have hlen:((c.drop lo).take len).length=len:=by simp only [List.length_take,List.length_drop]; omega
   rcases hs with ⟨rfl,ad,rfl⟩ | ⟨l,cap,hm,rfl,hc1,hc2⟩
   ·exact ⟨[],jQ,by simp,fun j hj=>by simp at hj⟩
   rcases R.fro k c (gj hg) with ⟨_,hn⟩ | ⟨l',vs,hm2,hB,hl,hcells⟩
   ·rw [hm] at hn; cases hn
   rw [hm] at hm2; cases hm2
   refine ⟨(List.range len).map fun j=>vs (lo + j),?_,by rw [List.length_map,List.length_range,List.length_map,hlen],fun j hj=>?_⟩
   ·have:=oT (P:=P) (w:=w) (b:=⟨l.g,l.o + lo,none⟩) (cx:=cap) (news:=(List.range len).map fun j=>vs (lo + j)) (fun j u hj=>by
     have hjl:j < len:=by have:=(List.getElem?_eq_some_iff.1 hj).1; simpa using this
     simp only [List.getElem?_map,List.getElem?_range hjl,Option.map_some,Option.some.injEq] at hj
     subst hj
     rw [add_lit,Nat.add_assoc]; exact (hcells (lo + j) (by omega)).1)
    simpa using this
   simp only [List.length_map,hlen] at hj
   simp only [List.getElem_map,List.getElem_take,List.getElem_drop]
   have e:((List.range len).map fun j=>vs (lo + j)).getD j undef=vs (lo + j):=by
    simp [List.getD,List.getElem?_map,List.getElem?_range hj]
   rw [e]
   exact .p _ _ (hcells (lo + j) (by omega)).2
 ·rename_i l
  simp only [Option.some.injEq,Prod.mk.injEq] at h
  obtain ⟨rfl,rfl⟩:=h
  rcases hx.aQ.o5 with ⟨rfl,ad,cap,rfl⟩ | ⟨b,off,cap,sz,vs,rfl,hb,hsz,hcap,hc,hr⟩
  ·exact ⟨[],jQ,rfl,fun j hj=>by simp at hj⟩
  exact lst l b off vs cap hp hc hr
 ·rename_i l
  simp only [Option.some.injEq,Prod.mk.injEq] at h
  obtain ⟨rfl,rfl⟩:=h
  rcases hx.aQ.pg with ⟨rfl,ad,rfl⟩ | ⟨b,off,sz,vs,rfl,hb,hsz,hc,hr⟩
  ·exact ⟨[],jQ,rfl,fun j hj=>by simp at hj⟩
  exact lst l b off vs _ hp hc hr
 ·simp only [Option.some.injEq,Prod.mk.injEq] at h
  obtain ⟨rfl,rfl⟩:=h
  rw [hx.aQ.eP]
  exact ⟨[],jQ,rfl,fun j hj=>by simp at hj⟩
 cases h
theorem sL {t e:TypeId} {i:TypeInfo} (ty:TypeId) (ht:P.underlying t=some (.slice e)) (hi:P.info? e=some i) (hsz:i.size=1) {g q n cap:Nat} {cur:Array Value} {e' : TypeId} (hg:w.heap[g]? = some (.cells cur e' (0,0)))
  {x:Value} {news:List Value} (hx:Src P w x news) (h1:∀ u∈news,u.oneCell' = true) (hroom:n + news.length≤cap) (hfit:q + cap≤cur.size) :
  (Builtin.append_ #[t,t] ty #[.slice (some ⟨g,q,none⟩) n cap,x]).run P w =
   .ok (.slice (some ⟨g,q,none⟩) (n + news.length) cap) (w.setRow g (cur.toList.take (q + n)++news++cur.toList.drop (q + n + news.length)).toArray):=by
 obtain ⟨⟨ax,cx,rfl⟩,hf⟩:=hx
 have hf:=hf w rfl
 have hst:=run_storeCells_at P g (q + n) e' news 0 cur w hg (by omega) h1
 simp only [Nat.add_zero] at hst
 simp [Builtin.append_,run_underlying ht,sizeOf,typeInfo,hi,hsz,Builtin.lenOf,hroom,hf,Addr.add_lit,hst]
theorem ju {t e:TypeId} {i:TypeInfo} (ty:TypeId) (ht:P.underlying t=some (.slice e)) (hi:P.info? e=some i) (hsz:i.size=1) {ad:Option Addr} {n cap:Nat}
  {x:Value} (hx:Src P w x []) (hn:n≤cap):(Builtin.append_ #[t,t] ty #[.slice ad n cap,x]).run P w = .ok (.slice ad n cap) w:=by
 obtain ⟨⟨ax,cx,rfl⟩,hf⟩:=hx
 have hf:=hf w rfl
 simp only [List.length_nil] at hf
 cases ad<;>simp [Builtin.append_,run_underlying ht,sizeOf,typeInfo,hi,hsz,Builtin.lenOf,hn,hf,storeCells]
theorem u6 {t e:TypeId} {i:TypeInfo} {z:Value} (ty:TypeId) (ht:P.underlying t=some (.slice e)) (hi:P.info? e=some i) (hz:i.zero=some z) (hsz:i.size=1) {sv:Value} {ad:Option Addr} {n cap:Nat} {olds:List Value} (hsv:sv = .slice ad n cap)
  (hs:Src P w sv olds) (hn:n=olds.length) {x:Value} {news:List Value} (hx:Src P w x news) (hroom:cap < n + news.length) (h63:n + news.length≤9223372036854775807) (h47:(n + news.length) * i.bytes≤140737488355328) :
  (Builtin.append_ #[t,t] ty #[sv,x]).run P w =
   .ok (.slice (some ⟨w.heap.size,0,none⟩) (n + news.length) (grownCap w (n + news.length) cap e))
    (w.drew.alloc (.cells (olds.toArray++news.toArray++Builtin.zeroCells z.cells (grownCap w (n + news.length) cap e - (n + news.length))) e)):=by
 obtain ⟨⟨ax,cx,rfl⟩,hf⟩:=hx
 have hf:=hf w.drew rfl
 have hfo:=hs.2 w.drew rfl
 subst hsv
 subst hn
 have hnr:¬ (olds.length + news.length≤cap):=by omega
 have h63' : ¬ (9223372036854775807 < ((olds.length:Int) + (news.length:Int))):=by omega
 have hfit:=growslice_fits (need:=olds.length + news.length) (old:=cap) (bytes:=i.bytes) hroom h47
 have h48' : ¬ (281474976710656 < Builtin.nextslicecap (olds.length + news.length) cap * i.bytes):=by omega
 simp [Builtin.append_,run_underlying ht,sizeOf,typeInfo,zeroValue,hi,hz,hsz,Builtin.lenOf,hnr,h63',h48',Question.forced,hf,hfo,newRow,grownCap]
 have e:(olds++news).toArray=olds.toArray++news.toArray:=by simp
 rw [e,Array.append_assoc]
theorem Aa {xs ys zs:List Value} {j:Nat} (h:j < xs.length + ys.length):((xs.toArray++ys.toArray++zs.toArray).getD j undef)=if j < xs.length then xs.getD j undef else ys.getD (j - xs.length) undef:=by
 have e:xs.toArray++ys.toArray++zs.toArray=(xs++ys++zs).toArray:=by simp
 rw [e,oS]
 by_cases h1:j < xs.length
 ·rw [if_pos h1,if_pos h1]
 rw [if_neg h1,if_neg h1,if_pos h]
theorem dA (o:Obj):Below w.heap.size w (w.drew.alloc o):=((Below.refl w.heap.size w).drew).alloc (by simp) o
include hT in
theorem rz (R:Rel C m s a.tmps w) {o:Oper} {t:TypeId} {x y:Operand} (ho:o.op = .call { callee:=.builtin .append,args:=#[x,y],argTypes:=#[t,t] }) {ti:TI} (ht:T t=some ti) {r:OV} (h:gC T ti s.H (s.ev x) (s.ev y)=some r) (hvc:r.vc) :
  ∃ v w' m',Yields P o a w v w'∧Rel C m' { s with H:=r.H } a.tmps w'∧aH (Reads (OK C m' r.H w') w') m' r.H r.av v:=by
 obtain ⟨dst,op,type,pos,after,guard⟩:=o
 simp only at ho
 subst ho
 unfold gC at h
 split at h
 ·rename_i e hk
  have hu:=cT (hT _ _ ht) hk
  split at h
  ·rename_i te hte
   obtain ⟨i,d,z,h1,h2,h3,h4,h5,h6,h7,h8⟩:=aZ (hT _ _ hte)
   split at h
   ·rename_i vx xs hxs
    have run:∀ v w',(Builtin.append_ #[t,t] type #[a.eval x,a.eval y]).run P w = .ok v w'→Yields P { dst:=dst,op:=.call { callee:=.builtin .append,args:=#[x,y],argTypes:=#[t,t] },type:=type,pos:=pos,after:=after,guard:=guard } a w v w':=by
     intro v w' hr
     left
     simp [BigFrame.execOp_builtin,BigFrame.builtin_append,hr]
    have fresh:∀ (olds news:List Value) (os:List AV) (ad:Option Addr) (cap:Nat),te.size=1→te.zero.length=1→a.eval x = .slice ad olds.length cap→Src P w (a.eval x) olds→olds.length=os.length→(∀ j (hj:j < os.length),aH (Reads (OK C m s.H w) w) m s.H os[j] (olds.getD j undef)) →
      Src P w (a.eval y) news→news.length=xs.length→(∀ j (hj:j < xs.length),aH (Reads (OK C m s.H w) w) m s.H xs[j] (news.getD j undef))→cap < olds.length + news.length→(olds.length + news.length) * te.bytes≤140737488355328→olds.length + news.length≤9223372036854775807 →
      ∃ cur,Yields P { dst:=dst,op:=.call { callee:=.builtin .append,args:=#[x,y],argTypes:=#[t,t] },type:=type,pos:=pos,after:=after,guard:=guard } a w (.slice (some ⟨w.heap.size,0,none⟩) (olds.length + news.length) (grownCap w (olds.length + news.length) cap e)) (w.drew.alloc (.cells cur e)) ∧
       cur.size=grownCap w (olds.length + news.length) cap e∧cur.size≤nu∧(os++xs).length≤cur.size∧∀ j (hj:j < (os++xs).length),aH (Reads (OK C m s.H w) w) m s.H (os++xs)[j] (cur.getD j undef):=by
     intro olds news os ad cap hsz hzl hv hs hol ho hn hnl hnv hroom hb h63
     have hz1:z.cells.size=1:=by rw [← Array.length_toList,h6]; exact hzl
     have hr:=u6 (P:=P) (w:=w) type hu h1 h3 (by rw [h4,hsz]) hv hs rfl hn hroom h63 (by rw [h5]; exact hb)
     have hge:=grownCap_ge w (olds.length + news.length) cap e
     have hle:=grownCap_le_maxLen w (olds.length + news.length) cap e (by unfold maxLen; omega)
     have hcs:(olds.toArray++news.toArray++Builtin.zeroCells z.cells (grownCap w (olds.length + news.length) cap e - (olds.length + news.length))).size=grownCap w (olds.length + news.length) cap e:=by
      simp only [Array.size_append,List.size_toArray,size_zeroCells,hz1,Nat.mul_one]; omega
     refine ⟨_,run _ _ hr,hcs,by rw [hcs]; exact oE hle,by rw [hcs]; simp only [List.length_append]; omega,fun j hj=>?_⟩
     simp only [List.length_append] at hj
     have eg:(olds.toArray++news.toArray++Builtin.zeroCells z.cells (grownCap w (olds.length + news.length) cap e - (olds.length + news.length))).getD j undef=if j < olds.length then olds.getD j undef else news.getD (j - olds.length) undef:=by
      have:=Aa (xs:=olds) (ys:=news) (zs:=(Builtin.zeroCells z.cells (grownCap w (olds.length + news.length) cap e - (olds.length + news.length))).toList) (j:=j) (by omega)
      rwa [Array.toArray_toList] at this
     rw [eg]
     by_cases hjo:j < os.length
     ·rw [if_pos (by omega),List.getElem_append_left hjo]; exact ho j hjo
     rw [if_neg (by omega),List.getElem_append_right (by omega)]
     have:=hnv (j - olds.length) (by omega)
     simp only [← hol]
     exact this
    split at h
    ·rename_i k lo len hxe
     split at h<;>simp only [Option.some.injEq,reduceCtorEq] at h
     rename_i c hg
     subst h
     obtain ⟨⟨g1,g2⟩,g3,g4,g5,g6,g7,g8⟩:=hvc
     have hkH:=bj hg
     have hx:=R.ev x
     rw [hxe] at hx
     obtain ⟨olds,o1,o2,o3⟩:=fP (P:=P) R (x:=x) (p:=lo + len≤c.length) (xs:=(c.drop lo).take len) (by rw [hxe]; simp only [cY,hg]) g6
     obtain ⟨news,n1,n2,n3⟩:=fP (P:=P) R hxs g3
     have hlen:((c.drop lo).take len).length=len:=by simp only [List.length_take,List.length_drop]; omega
     rw [hlen] at o2
     have hone:∀ u∈news,u.oneCell' = true:=by
      intro u hu
      obtain ⟨j,hj,rfl⟩:=List.getElem_of_mem hu
      have h1:=n3 j (by omega)
      have h2:=(List.all_eq_true.1 g4) xs[j] (List.getElem_mem _)
      have e:news.getD j undef=news[j]:=by simp [List.getD,List.getElem?_eq_getElem hj]
      rw [e] at h1
      exact (kI h2 h1).1
     generalize hv:a.eval x=v at hx
     cases hx with
     | sl _ _ _ _ hk' hs =>
      have elsewhere:∀ (ad:Option Addr) (cap:Nat),v = .slice ad len cap→cap < len + news.length →
        ∃ v w' m',Yields P { dst:=dst,op:=.call { callee:=.builtin .append,args:=#[x,y],argTypes:=#[t,t] },type:=type,pos:=pos,after:=after,guard:=guard } a w v w' ∧
         Rel C m' { s with H:=aE s.H k .dead++[.own ((c.drop lo).take len++xs)] } a.tmps w'∧aH (Reads (OK C m' (aE s.H k .dead++[.own ((c.drop lo).take len++xs)]) w') w') m' (aE s.H k .dead++[.own ((c.drop lo).take len++xs)]) (.sl s.H.length 0 (len + xs.length)) v:=by
       intro ad cap hvs hcap
       obtain ⟨cur,f1,f2,f3,f4,f5⟩:=fresh olds news ((c.drop lo).take len) ad cap g1 g2 (by rw [hv,hvs,o2]) o1 (by rw [o2,hlen]) o3 n1 n2 n3 (by omega) (by rw [o2,n2]; exact g7) (by omega)
       refine ⟨_,_,_,f1,R.vf (w':=w.drew.alloc (.cells cur e)) hkH (l':=⟨w.heap.size,0,cur.size⟩) ((dA _).Hd R.base) (fun b hb _=>(dA (.cells cur e)).block b hb) (.inr (Nat.le_refl _)) (cur:=cur) (e:=e) (heap_alloc_new w.drew _) rfl f3 (by simpa using f4) (fun j hj=>by simpa using f5 j hj),
        .sl _ _ _ _ (by simp [aB]) <| .inr ⟨⟨w.heap.size,0,cur.size⟩,grownCap w (olds.length + news.length) cap e,by simp [bJ],by rw [o2,n2],?_,by simp [f2]⟩⟩
       have:=grownCap_ge w (olds.length + news.length) cap e
       omega
      rcases hs with ⟨rfl,ad,rfl⟩ | ⟨l,cap,hm,rfl,hc1,hc2⟩
      ·by_cases hn:news=[]
       ·have hx0:xs=[]:=List.eq_nil_of_length_eq_zero (by rw [← n2,hn]; rfl)
        subst hx0
        have hr:=ju (P:=P) (w:=w) type hu h1 (by rw [h4,g1]) (ad:=ad) (n:=0) (cap:=0) (by rw [hn] at n1; exact n1) (Nat.le_refl _)
        have hK:=(R.kill k).qM
        have hl0:(aE s.H k .dead).length=s.H.length:=aB _ _ _
        simp only [hl0] at hK
        have e0:(c.drop lo).take 0++([]:List AV)=[]:=by simp
        refine ⟨_,_,_,run _ _ (by rw [hv]; exact hr),by rw [e0]; exact hK,.sl _ _ _ _ (by simp [aB]) <| .inl ⟨rfl,ad,rfl⟩⟩
       exact elsewhere ad 0 rfl (by have:=List.length_pos_iff.2 hn; omega)
      by_cases hroom:len + news.length≤cap
      ·rcases R.blk k c hkH with ⟨_,hn⟩ | ⟨l',cur,e',hm2,hB,hh,hs1,hs3,hs2,hcells⟩
       ·rw [hm] at hn; cases hn
       rw [hm] at hm2; cases hm2
       have hr:=sL (P:=P) (w:=w) type hu h1 (by rw [h4,g1]) hh n1 hone (n:=len) (cap:=cap) (q:=l.o + lo) hroom (by omega)
       have hcsz:(cur.toList.take (l.o + lo + len)++news++cur.toList.drop (l.o + lo + len + news.length)).toArray.size=l.n:=by
        simp only [List.size_toArray,List.length_append,List.length_take,List.length_drop,Array.length_toList]; omega
       refine ⟨_,_,_,run _ _ (by rw [hv]; exact hr),R.vf hkH (l':=⟨l.g,l.o + lo,l.n⟩) ?_ (fun b hb hne=>setRow_other w l.g b _ (hne l hm)) (.inl ⟨l,hm,rfl⟩) (setRow_heap w l.g cur _ e' _ hh) hcsz hs3 ?_ ?_,
        .sl _ _ _ _ (by simp [aB]) <| .inr ⟨⟨l.g,l.o + lo,l.n⟩,cap,by simp [bJ],by rw [n2]; rfl,by omega,by simp only; omega⟩⟩
       ·exact ⟨rfl,rfl,rfl,by simp [World.setRow],fun b hb=>setRow_other w l.g b _ (fun e=>hb (by rw [e]; exact hB)),Nat.le_refl _⟩
       ·simp only [List.length_append,hlen]; omega
       intro j hj
       simp only [List.length_append,hlen] at hj
       dsimp only
       rw [eV (by omega)]
       by_cases hjl:j < len
       ·rw [if_neg (by omega),List.getElem_append_left (by omega)]
        simp only [List.getElem_take,List.getElem_drop]
        have:=hcells (lo + j) (by omega)
        rwa [← Nat.add_assoc] at this
       rw [if_pos (by omega),List.getElem_append_right (by omega)]
       have:=n3 (j - len) (by omega)
       simp only [hlen]
       rwa [show l.o + lo + j - (l.o + lo + len)=j - len by omega]
      exact elsewhere _ cap rfl (by omega)
    ·rename_i hxe
     simp only [Option.some.injEq] at h
     subst h
     obtain ⟨⟨g1,g2⟩,g3,g4,g5,g6⟩:=hvc
     have hx:=R.ev x
     rw [hxe] at hx
     have hv:=hx.aQ.eP
     obtain ⟨news,n1,n2,n3⟩:=fP (P:=P) R hxs g3
     by_cases hn:news=[]
     ·have hx0:xs=[]:=List.eq_nil_of_length_eq_zero (by rw [← n2,hn]; rfl)
      subst hx0
      have hr:=ju (P:=P) (w:=w) type hu h1 (by rw [h4,g1]) (ad:=none) (n:=0) (cap:=0) (by rw [hn] at n1; exact n1) (Nat.le_refl _)
      exact ⟨_,_,_,run _ _ (by rw [hv]; exact hr),R.qM,.sl _ _ _ _ (by simp) <| .inl ⟨rfl,none,rfl⟩⟩
     obtain ⟨cur,f1,f2,f3,f4,f5⟩:=fresh [] news [] none 0 g1 g2 hv (by rw [hv]; exact jQ) rfl (fun j hj=>by simp at hj) n1 n2 n3 (by have:=List.length_pos_iff.2 hn; simp; omega) (by simpa [n2] using g5) (by simpa [n2] using g6)
     simp only [List.nil_append] at f4 f5
     refine ⟨_,_,_,f1,R.mr (dA _) (cur:=cur) (e:=e) (heap_alloc_new w.drew _) f3 f4 f5,.sl _ _ _ _ (by simp) <| .inr ⟨⟨w.heap.size,0,cur.size⟩,grownCap w (([]:List Value).length + news.length) 0 e,by simp [bJ],by simp [n2],?_,by simp [f2]⟩⟩
     have:=grownCap_ge w (([]:List Value).length + news.length) 0 e
     simp only [List.length_nil,Nat.zero_add] at this ⊢
     omega
    ·rename_i l hxe
     simp only [Option.some.injEq] at h
     subst h
     obtain ⟨⟨g1,g2⟩,g3,g4,g5,g6,g7,g8⟩:=hvc
     have hx:=R.ev x
     rw [hxe] at hx
     obtain ⟨ad,hv⟩:∃ ad,a.eval x = .slice (some ad) l.length l.length:=by
      generalize a.eval x=v at hx
      rcases hx.aQ.pg with ⟨rfl,ad,rfl⟩ | ⟨b,off,sz,vs,rfl,_⟩
      ·exact ⟨ad,rfl⟩
      exact ⟨_,rfl⟩
     obtain ⟨olds,o1,o2,o3⟩:=fP (P:=P) R (x:=x) (p:=l.all PV.one=true) (xs:=l.map .p) (by rw [hxe]; rfl) g5
     obtain ⟨news,n1,n2,n3⟩:=fP (P:=P) R hxs g3
     simp only [List.length_map] at o2
     obtain ⟨cur,f1,f2,f3,f4,f5⟩:=fresh olds news (l.map .p) (some ad) l.length g1 g2 (by rw [hv,o2]) o1 (by simpa using o2) o3 n1 n2 n3 (by omega) (by rw [o2,n2]; exact g7) (by omega)
     refine ⟨_,_,_,f1,R.mr (dA _) (cur:=cur) (e:=e) (heap_alloc_new w.drew _) f3 f4 f5,.sl _ _ _ _ (by simp) <| .inr ⟨⟨w.heap.size,0,cur.size⟩,grownCap w (olds.length + news.length) l.length e,by simp [bJ],by rw [o2,n2],?_,by simp [f2]⟩⟩
     have:=grownCap_ge w (olds.length + news.length) l.length e
     omega
    cases h
   cases h
  cases h
 cases h
end
open Go.RowKit
theorem nX:∀ (vs:List (Value × Nat)) (off:Nat) (cs:Array Value),(vs.foldl (fun cs (x:Value × Nat)=>cs.setIfInBounds (off + x.2) x.1) cs).size=cs.size
 | [],_,_=>rfl
 | x :: r,off,cs=>by simp only [List.foldl_cons]; rw [nX r off]; simp
theorem lf:∀ (vs:List Value) (k off:Nat) (cs:Array Value) (q:Nat),off + k + vs.length≤cs.size →
  ((vs.zipIdx k).foldl (fun cs (x:Value × Nat)=>cs.setIfInBounds (off + x.2) x.1) cs).getD q undef=if off + k≤q∧q < off + k + vs.length then vs.getD (q - (off + k)) undef else cs.getD q undef
 | [],k,off,cs,q,_=>by rw [if_neg (by simp)]; rfl
 | x :: r,k,off,cs,q,h=>by
  simp only [List.length_cons] at h
  simp only [List.zipIdx_cons,List.foldl_cons]
  rw [lf r (k + 1) off _ q (by simp; omega)]
  by_cases h1:off + (k + 1)≤q∧q < off + (k + 1) + r.length
  ·rw [if_pos h1,if_pos (by simp only [List.length_cons]; omega)]
   rw [show q - (off + k)=(q - (off + (k + 1))) + 1 by omega]
   simp [List.getD]
  rw [if_neg h1]
  by_cases h2:q=off + k
  ·subst h2
   rw [if_pos (by simp only [List.length_cons]; omega)]
   simp [Array.getD_eq_getD_getElem?,Array.getElem?_setIfInBounds_self_of_lt (show off + k < cs.size by omega)]
  rw [if_neg (by simp only [List.length_cons]; omega)]
  simp [Array.getD_eq_getD_getElem?,Array.getElem?_setIfInBounds_ne (Ne.symm h2)]
section
variable {P:Program} {T:TypeId→Option TI} (hT:∀ t ti,T t=some ti→bq P t=some ti) {C:Ctx} {m:Map} {s:St} {a:Act} {w w' : World}
theorem AJ {ok:Nat→Prop} {c:List AV} {cs:Array Value} {x:AV} {v:Value} {off sz:Nat} (hs:cs.size=c.length) (hc:∀ j (h:j < c.length),aH (Reads ok w) m s.H c[j] (cs.getD j undef)) (hv:aH (Reads ok w) m s.H x v)
  (h1:x.cells.length=sz) (h2:off + sz≤c.length) (h3:x.cells.all bp=true) :
  ∃ cs',(if v.cells.size ≠ sz || off + v.cells.size > cs.size then none else some (v.cells.zipIdx.foldl (fun cs (x:Value × Nat)=>cs.setIfInBounds (off + x.2) x.1) cs))=some cs'∧cs'.size=(iy c off x.cells).length ∧
   ∀ j (h:j < (iy c off x.cells).length),aH (Reads ok w) m s.H (iy c off x.cells)[j] (cs'.getD j undef):=by
 obtain ⟨v1,v2,v3⟩:=jK h3 hv
 have e1:(decide (v.cells.size ≠ sz) || decide (off + v.cells.size > cs.size))=false:=by
  simp only [Bool.or_eq_false_iff,decide_eq_false_iff_not]; omega
 have hl:(iy c off x.cells).length=c.length:=gz _ _ _ (by omega)
 refine ⟨v.cells.zipIdx.foldl (fun cs (x:Value × Nat)=>cs.setIfInBounds (off + x.2) x.1) cs,by simp only [e1,Bool.false_eq_true,if_false],?_,?_⟩
 ·rw [← Array.foldl_toList,Array.toList_zipIdx,nX,hs,hl]
 refine n4 (by omega) (fun j hj hn=>?_) fun j hj=>?_
 ·rw [← Array.foldl_toList,Array.toList_zipIdx,lf _ 0 off _ _ (by simp; omega),if_neg (by simp; omega)]
  exact hc j hj
 rw [← Array.foldl_toList,Array.toList_zipIdx,lf _ 0 off _ _ (by simp; omega),if_pos (by simp; omega)]
 have:=v2 j hj
 have e:v.cells.toList.getD (off + j - (off + 0)) undef=v.cells.getD j undef:=by
  rw [show off + j - (off + 0)=j by omega]
  simp [List.getD,Array.getD_eq_getD_getElem?]
 rw [e]
 exact this
theorem lZ (R:Rel C m s a.tmps w) (place:Nat→Option (Nat × Nat)):∀ (parts:List (Nat × Operand)) {c c' : List AV} {cs:Array Value} {p:Prop},cs.size=c.length→(∀ j (h:j < c.length),aH (Reads (OK C m s.H w) w) m s.H c[j] (cs.getD j undef)) →
  mC place c (parts.map fun q=>(q.1,s.ev q.2))=some (p,c')→p→∃ cs',Instr.fill place cs (parts.map fun q=>(q.1,a.eval q.2))=some cs'∧cs'.size=c'.length∧∀ j (h:j < c'.length),aH (Reads (OK C m s.H w) w) m s.H c'[j] (cs'.getD j undef)
 | [],c,c',cs,p,hs,hc,h,_=>by
  simp only [List.map_nil,mC,Option.some.injEq,Prod.mk.injEq] at h
  obtain ⟨_,rfl⟩:=h
  exact ⟨cs,rfl,hs,hc⟩
 | (i,x) :: r,c,c',cs,p,hs,hc,h,hp=>by
  simp only [List.map_cons,mC] at h
  split at h
  ·rename_i off sz hpl
   split at h<;>simp only [Option.some.injEq,Prod.mk.injEq,reduceCtorEq] at h
   rename_i p2 c2 hf
   obtain ⟨rfl,rfl⟩:=h
   obtain ⟨⟨g1,g2,g3⟩,g4⟩:=hp
   obtain ⟨cs1,e1,e2,e3⟩:=AJ hs hc (R.ev x) g1 g2 g3
   obtain ⟨cs2,f1,f2,f3⟩:=lZ R place r e2 e3 hf g4
   refine ⟨cs2,?_,f2,f3⟩
   simp only [List.map_cons,Instr.fill,hpl]
   split at e1
   ·cases e1
   rename_i hne
   rw [if_neg (by simpa using hne)]
   simp only [Option.some.injEq] at e1
   subst e1
   exact f1
  cases h
theorem uJ {fs:Array Field} (h:∀ f∈fs.toList,(P.info? f.type).isSome=true):(fs.mapM (fun f=>do pure (f.offset,← sizeOf f.type):Field→Sem (Nat × Nat))).run P w = .ok (fs.map fun f=>(f.offset,P.cellsOf f.type)) w:=by
 rw [Array.mapM_eq_mapM_toList]
 have key:∀ l:List Field,(∀ f∈l,(P.info? f.type).isSome=true)→(l.mapM (fun f=>do pure (f.offset,← sizeOf f.type):Field→Sem (Nat × Nat))).run P w = .ok (l.map fun f=>(f.offset,P.cellsOf f.type)) w:=by
  intro l
  induction l with
  | nil=>intro _; rfl
  | cons f r ih =>
   intro h
   obtain ⟨i,hi⟩:=Option.isSome_iff_exists.1 (h f (by simp))
   have:=ih (fun g hg=>h g (by simp [hg]))
   simp [List.mapM_cons,sizeOf,typeInfo,hi,Program.cellsOf] at this ⊢
   rw [this]
   simp
 rw [Sem.run_map,key _ h]
 simp only [Result.andThen_ok]
 rw [← Array.toList_map,Array.toArray_toList]
include hT in
theorem sX (R:Rel C m s a.tmps w) {o:Oper} {t:TypeId} {parts:Array (Nat × Operand)} (ho:o.op = .build t parts) {ti:TI} (ht:T t=some ti) {r:OV} (h:kf T ti s.H (parts.toList.map fun q=>(q.1,s.ev q.2))=some r) (hvc:r.vc) :
  r.H=s.H∧∃ v,(execOp a.eval o).run P w = .ok (.value v) w∧aH (Reads (OK C m s.H w) w) m s.H r.av v:=by
 obtain ⟨i,d,z,h1,h2,h3,h4,h5,h6,h7,h8⟩:=aZ (hT _ _ ht)
 have hz:z.cells.size=(ti.zero.map cv).length:=by rw [← h6]; simp
 have hc:∀ j (h:j < (ti.zero.map cv).length),aH (Reads (OK C m s.H w) w) m s.H (ti.zero.map cv)[j] (z.cells.getD j undef):=by
  intro j hj
  simp only [List.length_map] at hj
  have e:z.cells.getD j undef=ti.zero[j]:=by
   have:ti.zero[j]? = z.cells[j]?:=by rw [← h6]; simp
   rw [List.getElem?_eq_getElem hj] at this
   simp [Array.getD_eq_getD_getElem?,← this]
  rw [List.getElem_map,e]
  exact oU _
 have hpt:(parts.map fun q=>(q.1,a.eval q.2)).toList=parts.toList.map fun q=>(q.1,a.eval q.2):=by simp
 unfold kf at h
 split at h
 ·rename_i l hk
  obtain ⟨fs,hu,hfs,hin⟩:=lW (hT _ _ ht) hk
  split at h<;>simp only [Option.some.injEq,reduceCtorEq] at h
  rename_i p c hf
  subst h
  obtain ⟨cs,e1,e2,e3⟩:=lZ R _ parts.toList hz hc hf hvc
  have hpl:(fun i=>(l[i]?).map fun (f:Nat × TypeId × Nat)=>(f.1,f.2.2))=fun (i:Nat)=>(fs.map fun f=>(f.offset,P.cellsOf f.type))[i]?:=by
   funext i
   subst hfs
   simp only [List.getElem?_map,Array.getElem?_map,Option.map_map,Array.getElem?_toList]
   rfl
  rw [hpl] at e1
  refine ⟨rfl,.agg cs,?_,jH e2 e3⟩
  have hpr:=uJ (P:=P) (w:=w) hin
  simp only [execOp,ho,Instr.build,Sem.run_bind,zeroValue,typeInfo,run_program,Result.andThen_ok,h1,Sem.run_pure,h3,run_underlying hu,hpr,hpt,e1]
 ·rename_i n e hk
  have hu:=oH (hT _ _ ht) hk
  split at h
  ·rename_i te hte
   split at h<;>simp only [Option.some.injEq,reduceCtorEq] at h
   rename_i p c hf
   subst h
   obtain ⟨cs,e1,e2,e3⟩:=lZ R _ parts.toList hz hc hf hvc
   have hss:=eR (hT _ _ hte) w
   refine ⟨rfl,.agg cs,?_,jH e2 e3⟩
   simp only [execOp,ho,Instr.build,Sem.run_bind,zeroValue,typeInfo,run_program,Result.andThen_ok,h1,Sem.run_pure,h3,run_underlying hu,hss,hpt,e1]
  cases h
 cases h
theorem nR (v:PV):(AV.p v).cells=v.cells.map .p:=by cases v<;>rfl
theorem ou (R:Rel C m s a.tmps w) (sz:Nat):∀ (parts:List (Nat × Operand)) (n:Nat) {l:List PV} {cs:Array Value} {p:Prop},ji sz n (parts.map fun q=>(q.1,s.ev q.2))=some (p,l)→p→(n + l.length) * sz≤cs.size →
  (∀ x∈l,x.cells.length=sz)∧∃ cs',Instr.fill (fun i=>some (i * sz,sz)) cs (parts.map fun q=>(q.1,a.eval q.2))=some cs'∧cs'.size=cs.size∧(∀ q,q < n * sz→cs'.getD q undef=cs.getD q undef) ∧
   ∀ c (h:c < (flat l).length),Reads (OK C m s.H w) w (flat l)[c] (cs'.getD (n * sz + c) undef)
 | [],n,l,cs,p,h,_,_=>by
  simp only [List.map_nil,ji,Option.some.injEq,Prod.mk.injEq] at h
  obtain ⟨_,rfl⟩:=h
  exact ⟨by simp,cs,rfl,rfl,fun _ _=>rfl,fun c h=>by simp [flat] at h⟩
 | (i,x) :: r,n,l,cs,p,h,hp,hsz=>by
  simp only [List.map_cons] at h
  unfold ji at h
  split at h
  ·rename_i e; simp at e
  ·rename_i q0 i' v r' e
   simp only [List.cons.injEq,Prod.mk.injEq] at e
   obtain ⟨⟨rfl,hv⟩,rfl⟩:=e
   split at h<;>simp only [Option.some.injEq,Prod.mk.injEq,reduceCtorEq] at h
   rename_i p2 l2 hr
   obtain ⟨rfl,rfl⟩:=h
   obtain ⟨⟨g1,g2,g3⟩,g4⟩:=hp
   subst g1
   have hx:=R.ev x
   rw [hv] at hx
   have hok:(AV.p v).cells.all bp=true:=by
    rw [nR,List.all_map]
    exact g3
   obtain ⟨v1,v2,v3⟩:=jK hok hx
   rw [nR,List.length_map] at v1
   simp only [List.length_cons] at hsz
   have hmul:(i + 1 + l2.length) * sz=i * sz + sz + l2.length * sz:=by rw [Nat.add_mul,Nat.add_mul,Nat.one_mul]
   rw [show i + (l2.length + 1)=i + 1 + l2.length by omega] at hsz
   generalize hcs1:(a.eval x).cells.zipIdx.foldl (fun cs (x:Value × Nat)=>cs.setIfInBounds (i * sz + x.2) x.1) cs=cs1
   have hs1:cs1.size=cs.size:=by rw [← hcs1,← Array.foldl_toList,Array.toList_zipIdx,nX]
   have hg1:∀ q,cs1.getD q undef=if i * sz≤q∧q < i * sz + sz then (a.eval x).cells.getD (q - i * sz) undef else cs.getD q undef:=by
    intro q
    rw [← hcs1,← Array.foldl_toList,Array.toList_zipIdx,lf _ 0 _ _ _ (by simp; omega)]
    simp only [Nat.add_zero,Array.length_toList,v1,g2]
    split
    ·simp [List.getD,Array.getD_eq_getD_getElem?]
    rfl
   obtain ⟨k1,cs',k2,k3,k4,k5⟩:=ou R sz r (i + 1) (cs:=cs1) hr g4 (by rw [hs1]; exact hsz)
   refine ⟨fun y hy=>?_,cs',?_,by rw [k3,hs1],fun q hq=>?_,fun c hc=>?_⟩
   ·rcases List.mem_cons.1 hy with rfl | hy
    ·exact g2
    exact k1 y hy
   ·simp only [List.map_cons,Instr.fill]
    rw [if_neg (by simp only [Bool.or_eq_true,decide_eq_true_eq,ne_eq,not_or,Decidable.not_not]; constructor<;>omega)]
    have:(a.eval x).cells.zipIdx.foldl (fun cs (x:Value × Nat)=>match x with | (c,j)=>cs.setIfInBounds (i * sz + j) c) cs=cs1:=hcs1
    rw [this]
    exact k2
   ·rw [k4 q (by rw [Nat.add_mul]; omega),hg1,if_neg (by omega)]
   simp only [flat,List.length_append] at hc ⊢
   by_cases hcv:c < v.cells.length
   ·rw [k4 _ (by rw [Nat.add_mul]; omega),hg1,if_pos (by omega),List.getElem_append_left hcv,Nat.add_sub_cancel_left]
    have h2:=v2 c (by rw [nR,List.length_map]; exact hcv)
    simp only [nR,List.getElem_map] at h2
    exact h2.aQ
   rw [List.getElem_append_right (by omega)]
   have:=k5 (c - v.cells.length) (by omega)
   rwa [show (i + 1) * sz + (c - v.cells.length)=i * sz + c by rw [Nat.add_mul]; omega] at this
  cases h
include hT in
theorem l7 (R:Rel C m s a.tmps w) {o:Oper} {t:TypeId} {n:Nat} {parts:Array (Nat × Operand)} (ho:o.op = .buildSlice t n parts) {ti:TI} (ht:T t=some ti) {r:OV} (h:dt T ti s.H n (parts.toList.map fun q=>(q.1,s.ev q.2))=some r) (hvc:r.vc) :
  r.H=s.H∧∃ v w',(execOp a.eval o).run P w = .ok (.value v) w'∧Below w.heap.size w w'∧aH (Reads (OK C m s.H w') w') m s.H r.av v:=by
 unfold dt at h
 split at h
 ·rename_i e hk
  have hu:=cT (hT _ _ ht) hk
  split at h
  ·rename_i te hte
   obtain ⟨i,d,z,h1,h2,h3,h4,h5,h6,h7,h8⟩:=aZ (hT _ _ hte)
   split at h<;>simp only [Option.some.injEq,reduceCtorEq] at h
   rename_i p l hp
   subst h
   obtain ⟨g1,g2,g3,g4⟩:=hvc
   have key:∀ z0:Array Value,∃ cs',(∀ x∈l,x.cells.length=te.size)∧Instr.fill (fun i=>some (i * te.size,te.size)) ((Array.range (n * te.size)).map (z0[· % z0.size]!)) (parts.toList.map fun q=>(q.1,a.eval q.2))=some cs'∧cs'.size=n * te.size ∧
     ∀ c (h:c < (flat l).length),Reads (OK C m s.H w) w (flat l)[c] (cs'.getD c undef):=by
    intro z0
    obtain ⟨k1,cs',k2,k3,_,k5⟩:=ou R te.size parts.toList 0 (cs:=(Array.range (n * te.size)).map (z0[· % z0.size]!)) hp g1 (by simp [g2])
    exact ⟨cs',k1,k2,by rw [k3]; simp,fun c hc=>by have:=k5 c hc; rwa [Nat.zero_mul,Nat.zero_add] at this⟩
   obtain ⟨cs',k1,k2,k3,k5⟩:=key (if n * te.size=0 then #[] else z.cells)
   have hss:=eR (hT _ _ hte) w
   have hfl:=ga te.size l k1
   refine ⟨rfl,.slice (some ⟨w.heap.size,0,none⟩) n n,w.alloc (.cells cs' e),?_,dp _,.p _ _ ?_⟩
   ·have hpt:(parts.map fun q=>(q.1,a.eval q.2)).toList=parts.toList.map fun q=>(q.1,a.eval q.2):=by simp
    have hne:¬ (n * te.size > 2 ^ 24):=by omega
    by_cases hz:n * te.size=0
    ·rw [if_pos hz] at k2
     simp only [execOp,ho,Instr.buildSlice,Sem.run_bind,run_underlying hu,Result.andThen_ok,hss,Sem.run_ite,hz,if_true,Sem.run_pure,newRow] at k2 ⊢
     simp only [hpt,k2,Sem.run_bind,run_newObj,Result.andThen_ok,Sem.run_pure]
     rfl
    rw [if_neg hz] at k2
    simp only [execOp,ho,Instr.buildSlice,Sem.run_bind,run_underlying hu,Result.andThen_ok,hss,Sem.run_ite,hne,if_false,hz,zeroValue,typeInfo,run_program,h1,h3,Sem.run_pure,newRow] at k2 ⊢
    simp only [hpt,k2,Sem.run_bind,run_newObj,Result.andThen_ok,Sem.run_pure]
    rfl
   rw [← g2]
   have hok:OK C m s.H (w.alloc (.cells cs' e)) w.heap.size:=by
    refine ⟨.inr (R.base _ (Nat.le_refl _)),by simp,fun k c l' hkc hl e'=>?_⟩
    rcases R.blk k c hkc with ⟨_,hn⟩ | ⟨l2,cur,e2,hl2,_,hg,_⟩
    ·rw [hl] at hn; cases hn
    rw [hl] at hl2; cases hl2
    have:=(Array.getElem?_eq_some_iff.1 hg).1
    omega
   have hb:Below w.heap.size w (w.alloc (.cells cs' e)):=dp _
   refine .nn l w.heap.size 0 te.size (fun c=>cs'.getD c undef) hok k1 (fun c hc=>?_) fun c hc=>?_
   ·rw [Nat.zero_add]
    exact cell_of (heap_alloc_new w _) (by rw [k3,← g2,← hfl]; exact hc)
   exact (k5 c hc).ext (Rel.yw hb) (fun b h=>hb.block b h.2.1)
  cases h
 cases h
theorem k8 (R:Rel C m s a.tmps w) {o:Oper} {ts:Array TypeId} {xs:Array Operand} {b:Builtin} {f:Int→Int→Int} (hb:(b = .min∧f=fun a b=>if b < a then b else a)∨(b = .max∧f=fun a b=>if b > a then b else a))
  (ho:o.op = .call { callee:=.builtin b,args:=xs,argTypes:=ts }) {r:OV} (h:fA f s.H (xs.toList.map s.ev)=some r) :
  r.H=s.H∧∃ v,(execOp a.eval o).run P w = .ok (.value v) w∧aH (Reads (OK C m s.H w) w) m s.H r.av v:=by
 obtain ⟨dst,op,type,pos,after,guard⟩:=o
 simp only at ho
 subst ho
 unfold fA at h
 split at h<;>simp only [Option.some.injEq,reduceCtorEq] at h
 rename_i p q hpq
 subst h
 obtain ⟨l⟩:=xs
 rcases l with _ | ⟨x,_ | ⟨y,_ | ⟨u,l⟩⟩⟩<;>simp only [List.map_cons,List.map_nil,List.cons.injEq,and_true,reduceCtorEq,and_false] at hpq
 have ex:=eY R hpq.1
 have ey:=eY R hpq.2
 rcases hb with ⟨rfl,rfl⟩ | ⟨rfl,rfl⟩
 ·exact ⟨rfl,.int .i64 (if q < p then q else p),by simp [BigFrame.execOp_builtin,BigFrame.builtin_min,Builtin.min_,Builtin.min2,ex,ey],.p _ _ (.int _ _)⟩
 exact ⟨rfl,.int .i64 (if q > p then q else p),by simp [BigFrame.execOp_builtin,BigFrame.builtin_max,Builtin.max_,Builtin.max2,ex,ey],.p _ _ (.int _ _)⟩
theorem oM {kk:IntKind} {z:Int} : ∀ {es:List MapEntry},(∀ e∈es,e.key ≠ bH kk z)→p4 kk z es=none
 | [],_=>rfl
 | e :: es,h=>by rw [fF _ (h e (by simp))]; exact oM fun e' he=>h e' (by simp [he])
theorem om (kk:IntKind) (z:Int) (e:MapEntry):∀ es:List MapEntry,p4 kk z (es++[e])=match p4 kk z es with | some x=>some x | none=>bif iM kk z e.key then some e.val else none
 | []=>by simp [p4]
 | a :: es=>by
  by_cases h:a.key=bH kk z
  ·rw [List.cons_append,ie _ h,ie _ h]
  rw [List.cons_append,fF _ h,fF _ h,om kk z e es]
theorem jg {kk:IntKind} {n:Int} {x:Value} : ∀ {es:List MapEntry} {j:Nat} {e:MapEntry},es[j]? = some e→e.key=bH kk n→(es.modify j fun e=>{ e with key:=bH kk n,val:=x }).map MapEntry.key=es.map MapEntry.key
 | a :: es,0,e,h1,h2=>by
  simp at h1; subst h1
  rw [List.modify_zero_cons,List.map_cons,List.map_cons,h2]
 | a :: es,j + 1,e,h1,h2=>by
  rw [List.modify_succ_cons,List.map_cons,List.map_cons,jg (es:=es) (j:=j) (by simpa using h1) h2]
theorem mM {kk:IntKind} (hk8:kk ≠ .i8) {z:Int} : ∀ (es:List MapEntry) (i:Nat),(∀ e∈es,∃ y,e.key=bH kk y) →
  (Instr.findNow (.int kk) (.int kk z) es i=some none∧∀ e∈es,e.key ≠ bH kk z) ∨
  ∃ j e,Instr.findNow (.int kk) (.int kk z) es i=some (some (i + j,e.val))∧es[j]? = some e∧e.key=bH kk z∧(∀ q,q < j→∀ e',es[q]? = some e'→e'.key ≠ bH kk z)∧p4 kk z es=some e.val
 | [],_,_=>.inl ⟨rfl,by simp⟩
 | a :: es,i,h=>by
  obtain ⟨y,hy⟩:=h a (by simp)
  have hs:Instr.sameNow (.int kk) (.int kk z) a.key=some (z == y):=by rw [hy,ee hk8]; simp [Instr.sameNow]
  by_cases hzy:z=y
  ·subst hzy
   refine .inr ⟨0,a,?_,rfl,hy,fun q hq=>by omega,ie _ hy⟩
   simp only [Instr.findNow,hs,beq_self_eq_true,Nat.add_zero]
  have hne:a.key ≠ bH kk z:=fun h'=>hzy (jd (hy.symm.trans h')).symm
  have hb:(z == y)=false:=by simpa using hzy
  rcases mM hk8 es (i + 1) (fun e he=>h e (by simp [he])) with ⟨h1,h2⟩ | ⟨j,e,h1,h2,h3,h4,h5⟩
  ·refine .inl ⟨by simp only [Instr.findNow,hs,hb]; exact h1,fun e he=>?_⟩
   rcases List.mem_cons.1 he with rfl | he
   ·exact hne
   exact h2 e he
  refine .inr ⟨j + 1,e,by simp only [Instr.findNow,hs,hb]; rw [h1,show i + 1 + j=i + (j + 1) by omega],by simpa using h2,h3,fun q hq e' he'=>?_,by rw [fF _ hne]; exact h5⟩
  cases q with
  | zero=>simp at he'; subst he'; exact hne
  | succ q=>exact h4 q (by omega) e' (by simpa using he')
theorem kj {kk:IntKind} {z u:Int} {x:Value} : ∀ {es:List MapEntry} {j:Nat} {e:MapEntry},es[j]? = some e→e.key=bH kk z→(∀ q,q < j→∀ e',es[q]? = some e'→e'.key ≠ bH kk z) →
  p4 kk u (es.modify j fun e=>{ e with key:=bH kk z,val:=x })=if u=z then some x else p4 kk u es
 | a :: es,0,e,h1,h2,_=>by
  simp at h1; subst h1
  by_cases huz:u=z
  ·subst huz
   rw [List.modify_zero_cons,ie _ rfl,if_pos rfl]
  rw [List.modify_zero_cons,fF _ (fun h=>huz (jd h).symm),fF _ (fun h=>huz (jd (h2.symm.trans h)).symm),if_neg huz]
 | a :: es,j + 1,e,h1,h2,h3=>by
  have h0:=h3 0 (by omega) a rfl
  have ih:=kj (kk:=kk) (z:=z) (u:=u) (x:=x) (es:=es) (j:=j) (by simpa using h1) h2 fun q hq e' he'=>h3 (q + 1) (by omega) e' (by simpa using he')
  rw [List.modify_succ_cons]
  by_cases hau:a.key=bH kk u
  ·have huz:u ≠ z:=fun h=>h0 (by rw [← h]; exact hau)
   rw [ie _ hau,ie _ hau,if_neg huz]
  rw [fF _ hau,fF _ hau,ih]
theorem Rel.C6 (R:Rel C m s a.tmps w) (kk:IntKind):Rel C (bJ m s.H.length (some ⟨w.heap.size,0,0⟩)) { s with H:=s.H++[.mp kk (fun _=>false) (fun _=>default)] } a.tmps (w.alloc (.map #[] 0)):=by
 have hb:Below w.heap.size w (w.alloc (.map #[] 0)):=dp _
 have hm:∀ k,k < s.H.length→bJ m s.H.length (some ⟨w.heap.size,0,0⟩) k=m k:=fun k hk=>by simp [bJ,show k ≠ s.H.length by omega]
 have hmn:bJ m s.H.length (some ⟨w.heap.size,0,0⟩) s.H.length=some ⟨w.heap.size,0,0⟩:=by simp [bJ]
 have hnew:(w.alloc (.map #[] 0)).heap[w.heap.size]? = some (.map #[] 0):=heap_alloc_new w _
 have own:∀ (k:Nat) (b:aL),(s.H++[aL.mp kk (fun _=>false) (fun _=>default)])[k]? = some b→(k < s.H.length∧s.H[k]? = some b)∨(k=s.H.length∧aL.mp kk (fun _=>false) (fun _=>default)=b):=fun k b h=>aN h
 have hok:∀ b,OK C m s.H w b→OK C (bJ m s.H.length (some ⟨w.heap.size,0,0⟩)) (s.H++[aL.mp kk (fun _=>false) (fun _=>default)]) (w.alloc (.map #[] 0)) b:=fun b h=>⟨h.1,Nat.lt_of_lt_of_le h.2.1 hb.size,fun k c l hk hl=>by
  rcases own k _ hk with ⟨hk1,hk2⟩ | ⟨_,hk2⟩
  ·rw [hm k hk1] at hl; exact h.2.2 k c l hk2 hl
  cases hk2⟩
 have hh:∀ b,b < w.heap.size→(w.alloc (.map #[] 0)).heap[b]? = w.heap[b]?:=fun b h=>hb.block b h
 have hlt:∀ k c' l,s.H[k]? = some (.own c')→m k=some l→l.g < w.heap.size:=by
  intro k c' l h hl
  rcases R.blk k c' h with ⟨_,hn⟩ | ⟨l',cur',e',hl',_,hg',_⟩
  ·rw [hl] at hn; cases hn
  rw [hl] at hl'; cases hl'
  exact (Array.getElem?_eq_some_iff.1 hg').1
 refine ⟨R.laid.ext fun p v h=>h.ext hok fun b hb'=>hh b hb'.2.1,R.below.trans (hb.Hd R.base),fun b h=>R.base b (Nat.le_trans hb.size h),R.size,?_,?_,?_,fun t=>?_,fun k kk' d v h=>?_,fun k k' kk1 d v kk2 d' v' l l' h1 h2 h3 h4 h5=>?_,fun k i j h=>?_,?_⟩
 rotate_left 7
 ·refine R.mp.2.2.2.ext id (fun k r h=>?_) (fun _ _ _ _ _ _ h=>h) (fun k r l h hl _=>hh _ (R.xt h hl).2.1) fun _ _ _ _ _ h=>h
  rcases own k _ h with ⟨hk,h⟩ | ⟨_,e⟩
  ·exact ⟨h,hm k hk⟩
  cases e
 ·intro k k' c1 c2 l l' h1 h2 h3 h4 h5
  rcases own k _ h1 with ⟨hk,h1⟩ | ⟨_,e⟩
  ·rcases own k' _ h2 with ⟨hk',h2⟩ | ⟨_,e⟩
   ·rw [hm _ hk] at h3; rw [hm _ hk'] at h4; exact R.inj k k' c1 c2 l l' h1 h2 h3 h4 h5
   cases e
  cases e
 ·intro k c h
  rcases own k _ h with ⟨hk,h⟩ | ⟨_,e⟩
  ·exact (R.blk k c h).ext (fun p v h=>h.ext hok fun b hb'=>hh b hb'.2.1) (by simp) hm (hm k hk) fun l hl=>hh _ (hlt k c l h hl)
  cases e
 ·intro k c h
  rcases own k _ h with ⟨hk,h⟩ | ⟨_,e⟩
  ·exact (R.fro k c h).ext hok (fun b hb'=>hh b hb'.2.1) (hm k hk)
  cases e
 ·exact (R.slot t).ext (fun p v h=>h.ext hok fun b hb'=>hh b hb'.2.1) (by simp) hm
 ·rcases own k _ h with ⟨hk,h⟩ | ⟨rfl,e⟩
  ·exact (R.mp.1 k kk' d v h).ext hok (fun b hb'=>hh b hb'.2.1) (hm k hk) fun l hl=>hh _ (R.rI h hl).2.1
  cases e
  exact ⟨⟨w.heap.size,0,0⟩,#[],0,fun _=>undef,hmn,R.base _ (Nat.le_refl _),hnew,by simp [Hw],fun _ _=>rfl,fun z hz=>absurd hz (by simp),fun z hz=>absurd hz (by simp)⟩
 ·rcases own k _ h1 with ⟨hk,h1⟩ | ⟨rfl,e⟩<;>rcases own k' _ h2 with ⟨hk',h2⟩ | ⟨rfl,e'⟩
  ·rw [hm _ hk] at h3; rw [hm _ hk'] at h4; exact R.mp.2.1 _ _ _ _ _ _ _ _ _ _ h1 h2 h3 h4 h5
  ·rw [hm _ hk] at h3; rw [hmn] at h4; cases h4
   have:=(R.rI h1 h3).2.1; simp only at h5; omega
  ·rw [hm _ hk'] at h4; rw [hmn] at h3; cases h3
   have:=(R.rI h2 h4).2.1; simp only at h5; omega
  rfl
 rcases own k _ h with ⟨hk,h⟩ | ⟨_,e⟩
 ·obtain ⟨a1,a2⟩:=R.mp.2.2.1 k i j h
  exact ⟨by simp; omega,by rw [hm j a1]; exact a2⟩
 cases e
theorem Rel.DA (R:Rel C m s a.tmps w) {k:Nat} {kk:IntKind} {d:Int→Bool} {v:Int→PV} (hk:s.H[k]? = some (.mp kk d v)) {l:Loc} (hm:m k=some l) {d' : Int→Bool} {v' : Int→PV} {ar:Array MapEntry} {clk:Nat} {vs:Int→Value}
  (h1:Hw kk clk ar.toList) (h2:∀ z,d' z=false→p4 kk z ar.toList=none) (h3:∀ z,d' z=true→p4 kk z ar.toList=some (vs z))
  (h4:∀ z,d' z=true→Reads (OK C m s.H w) w (v' z) (vs z)):Rel C m { s with H:=aE s.H k (.mp kk d' v') } a.tmps { w with heap:=w.heap.setIfInBounds l.g (.map ar clk) }:=by
 obtain ⟨l',ar0,clk0,vs0,a1,a2,a3,a4,a5,a6,a7⟩:=R.mp.1 k kk d v hk
 rw [hm] at a1; cases a1
 have hlg:l.g < w.heap.size:=(Array.getElem?_eq_some_iff.1 a3).1
 have hkl:k < s.H.length:=(List.getElem?_eq_some_iff.1 hk).1
 obtain ⟨g1,g2⟩:=MapKept.heap_set (o':=.map ar clk) a3
 have aq:∀ (j:Nat) (b:aL),(aE s.H k (.mp kk d' v'))[j]? = some b→(j=k∧b = .mp kk d' v')∨(j ≠ k∧s.H[j]? = some b):=by
  intro j b h
  rw [cr] at h
  by_cases e:j=k
  ·rw [if_pos ⟨e,hkl⟩] at h; exact .inl ⟨e,(Option.some.inj h).symm⟩
  rw [if_neg (by simp [e])] at h; exact .inr ⟨e,h⟩
 have hcell:∀ (b o:Nat) (x:Value),w.cell? ⟨b,o,none⟩=some x→({ w with heap:=w.heap.setIfInBounds l.g (.map ar clk) } : World).cell? ⟨b,o,none⟩=some x:=fun b o x h=>by
  by_cases e:b=l.g
  ·subst e
   exfalso
   unfold World.cell? at h
   simp only [a3] at h
   first|cases h|simp at h
  rw [World.cell?_of_block (w:=w) (g2 b e)]; exact h
 have hok:∀ b,OK C m s.H w b→OK C m (aE s.H k (.mp kk d' v')) { w with heap:=w.heap.setIfInBounds l.g (.map ar clk) } b:=fun b h=>⟨h.1,by simpa using h.2.1,fun j c l2 hj hl2=>by
  rcases aq j _ hj with ⟨_,e⟩ | ⟨_,hj⟩
  ·cases e
  exact h.2.2 j c l2 hj hl2⟩
 have rdx:∀ p x,Reads (OK C m s.H w) w p x→Reads (OK C m (aE s.H k (.mp kk d' v')) { w with heap:=w.heap.setIfInBounds l.g (.map ar clk) }) { w with heap:=w.heap.setIfInBounds l.g (.map ar clk) } p x:=
  fun p x h=>h.En hok fun b o y _ hc=>hcell b o y hc
 have hrow:∀ j c l2,s.H[j]? = some (.own c)→m j=some l2→l2.g ≠ l.g:=fun j c l2 hj hl2=>(R.rI hk hm).2.2 j c l2 hj hl2
 refine ⟨R.laid.ext rdx,R.below.trans ⟨rfl,rfl,rfl,by simp,fun b hb=>g2 b (fun e=>hb (by rw [e]; exact a2)),Nat.le_refl _⟩,by simpa using R.base,R.size,?_,?_,?_,fun t=>?_,fun j kk' d1 v1 h=>?_,fun j j' kk1 d1 v1 kk2 d2 v2 l1 l2 b1 b2 b3 b4 b5=>?_,fun j i i2 h=>?_,?_⟩
 rotate_left 7
 ·refine R.mp.2.2.2.ext id (fun j r h=>?_) (fun _ _ _ _ _ _ h=>h) (fun j r l2 h hl2 h3=>g2 _ fun e=>?_) fun _ _ _ _ _ h=>h
  ·rcases aq j _ h with ⟨_,e⟩ | ⟨_,h⟩
   ·cases e
   exact ⟨h,rfl⟩
  rw [e,a3] at h3; cases h3
 ·intro j j' c1 c2 l1 l2 b1 b2 b3 b4 b5
  rcases aq j _ b1 with ⟨_,e⟩ | ⟨_,b1⟩
  ·cases e
  rcases aq j' _ b2 with ⟨_,e⟩ | ⟨_,b2⟩
  ·cases e
  exact R.inj j j' c1 c2 l1 l2 b1 b2 b3 b4 b5
 ·intro j c h
  rcases aq j _ h with ⟨_,e⟩ | ⟨_,h⟩
  ·cases e
  exact (R.blk j c h).ext rdx (by simp [aB]) (fun _ _=>rfl) rfl fun l2 hl2=>g2 _ (hrow j c l2 h hl2)
 ·intro j c h
  rcases aq j _ h with ⟨_,e⟩ | ⟨_,h⟩
  ·cases e
  rcases R.fro j c h with h' | ⟨l2,vs2,b1,b2,b3,b4⟩
  ·exact .inl h'
  exact .inr ⟨l2,vs2,b1,hok _ b2,b3,fun i hi=>⟨hcell _ _ _ (b4 i hi).1,rdx _ _ (b4 i hi).2⟩⟩
 ·exact (R.slot t).ext rdx (by simp [aB]) fun _ _=>rfl
 ·rcases aq j _ h with ⟨rfl,e⟩ | ⟨hne,h⟩
  ·cases e
   exact ⟨l,ar,clk,vs,hm,a2,g1,h1,h2,h3,fun z hz=>rdx _ _ (h4 z hz)⟩
  obtain ⟨l2,ar2,clk2,vs2,b1,b2,b3,b4,b5,b6,b7⟩:=R.mp.1 j kk' d1 v1 h
  have hg2:l2.g ≠ l.g:=fun e=>hne (R.mp.2.1 _ _ _ _ _ _ _ _ _ _ h hk b1 hm e)
  exact ⟨l2,ar2,clk2,vs2,b1,b2,by rw [show ({ w with heap:=w.heap.setIfInBounds l.g (.map ar clk) } : World).heap[l2.g]? = w.heap[l2.g]? from g2 _ hg2]; exact b3,b4,b5,b6,fun z hz=>rdx _ _ (b7 z hz)⟩
 ·have g:∀ (j:Nat) (kk1:IntKind) (d1:Int→Bool) (v1:Int→PV),(aE s.H k (.mp kk d' v'))[j]? = some (aL.mp kk1 d1 v1)→∃ kk2 d2 v2,s.H[j]? = some (aL.mp kk2 d2 v2):=by
   intro j kk1 d1 v1 h
   rcases aq j _ h with ⟨rfl,_⟩ | ⟨_,h⟩
   ·exact ⟨_,_,_,hk⟩
   exact ⟨_,_,_,h⟩
  obtain ⟨_,_,_,c1⟩:=g _ _ _ _ b1
  obtain ⟨_,_,_,c2⟩:=g _ _ _ _ b2
  exact R.mp.2.1 _ _ _ _ _ _ _ _ _ _ c1 c2 b3 b4 b5
 rcases aq j _ h with ⟨_,e⟩ | ⟨_,h⟩
 ·cases e
 obtain ⟨c1,c2⟩:=R.mp.2.2.1 j i i2 h
 exact ⟨by rw [aB]; exact c1,c2⟩
include hT in
theorem py (R:Rel C m s a.tmps w) {o:Oper} {t:TypeId} (ho:o.op = .makeMap t none) {ti:TI} (ht:T t=some ti) {r:OV} (h:lv T ti s.H=some r) :
  ∃ v w' m',Yields P o a w v w'∧Rel C m' { s with H:=r.H } a.tmps w'∧aH (Reads (OK C m' r.H w') w') m' r.H r.av v:=by
 unfold lv at h
 split at h
 ·split at h
  ·rename_i kk hkk
   split at h
   ·cases h
   simp only [Option.some.injEq] at h
   subst h
   refine ⟨.map (some w.heap.size),w.alloc (.map #[] 0),_,.inl ?_,R.C6 kk,.mptr _ _ (by simp) ⟨⟨w.heap.size,0,0⟩,by simp [bJ],rfl⟩⟩
   simp [execOp,ho,Instr.makeMap]
  ·simp only [Option.some.injEq] at h
   subst h
   refine ⟨.map (some w.heap.size),w.alloc (.map #[] 0),_,.inl ?_,R.C6 .i8,.mptr _ _ (by simp) ⟨⟨w.heap.size,0,0⟩,by simp [bJ],rfl⟩⟩
   simp [execOp,ho,Instr.makeMap]
  cases h
 cases h
theorem iJ (n:Int) (kk0:IntKind) (z:Value):∀ (l:List MapEntry) (i:Nat),(l.modify i fun e=>{ e with key:=bH kk0 n,val:=z }).map MapEntry.born=l.map MapEntry.born
 | [],i=>by cases i<;>rfl
 | e :: r,0=>rfl
 | e :: r,i + 1=>by simp [List.modify_succ_cons,iJ n kk0 z r i]
structure zJ (P:Program) (w:World) (kt:TypeId) (kk:IntKind) (n:Int):Prop where
 Dy:∀ em,(Instr.checkKey em 10000 kt (bH kk n)).run P w = .ok () w
 stay:(Instr.keyThatStays (bH kk n) (bH kk n)).run P w = .ok (bH kk n) w
 find:∀ es:List MapEntry,(∀ e∈es,∃ y,e.key=bH kk y) →
  ((Instr.findKey kt (bH kk n) es).run P w = .ok none w∧∀ e∈es,e.key ≠ bH kk n) ∨
  ∃ j e,(Instr.findKey kt (bH kk n) es).run P w = .ok (some (j,e.val)) w∧es[j]? = some e∧e.key=bH kk n∧(∀ q,q < j→∀ e',es[q]? = some e'→e'.key ≠ bH kk n)∧p4 kk n es=some e.val
theorem xf {P:Program} {w:World} {kt:TypeId} {kk:IntKind} {n:Int} (hd:P.underlying kt=some (.int kk)) (hk:kk ≠ .i8):zJ P w kt kk n:=by
 have hkey:MapKept.IsKey (.int kk) (.int kk n):=rfl
 refine ⟨fun em=>?_,?_,fun es h=>?_⟩
 ·rw [ee hk]; exact MapKept.run_checkKey hd hkey em _
 ·rw [ee hk]; exact MapKept.run_keyThatStays hkey
 rcases mM hk es 0 h (z:=n) with ⟨h1,h2⟩ | ⟨i,e0,h1,h2,h3,h4,h5⟩
 ·refine .inl ⟨?_,h2⟩
  rw [ee hk]
  exact MapKept.run_findKey hd h1
 refine .inr ⟨i,e0,?_,h2,h3,h4,h5⟩
 rw [ee hk]
 rw [Nat.zero_add] at h1
 exact MapKept.run_findKey hd h1
theorem mZ {P:Program} {w:World} {kt:TypeId} {kk:IntKind} {n:Int} (heq:∀ y,(Op.equal kt (bH kk n) (bH kk y)).run P w = .ok (decide (n=y)) w):∀ (es:List MapEntry) (i:Nat),(∀ e∈es,∃ y,e.key=bH kk y) →
  ((Instr.findAsking kt (bH kk n) es i).run P w = .ok none w∧∀ e∈es,e.key ≠ bH kk n) ∨
  ∃ j e,(Instr.findAsking kt (bH kk n) es i).run P w = .ok (some (i + j,e.val)) w∧es[j]? = some e∧e.key=bH kk n∧(∀ q,q < j→∀ e',es[q]? = some e'→e'.key ≠ bH kk n)∧p4 kk n es=some e.val
 | [],_,_=>.inl ⟨by simp [Instr.findAsking],by simp⟩
 | a :: es,i,h=>by
  obtain ⟨y,hy⟩:=h a (by simp)
  have hq:=heq y
  by_cases hzy:n=y
  ·subst hzy
   refine .inr ⟨0,a,?_,rfl,hy,fun q hq=>by omega,ie _ hy⟩
   simp only [Instr.findAsking,Sem.run_bind,hy,hq,Result.andThen_ok]
   simp
  have hne:a.key ≠ bH kk n:=fun h'=>hzy (jd (hy.symm.trans h')).symm
  have hstep:(Instr.findAsking kt (bH kk n) (a :: es) i).run P w=(Instr.findAsking kt (bH kk n) es (i + 1)).run P w:=by
   rw [Instr.findAsking]
   simp only [Sem.run_bind,hy,hq,Result.andThen_ok,decide_eq_false hzy]
   simp
  rcases mZ heq es (i + 1) (fun e he=>h e (by simp [he])) with ⟨h1,h2⟩ | ⟨j,e,h1,h2,h3,h4,h5⟩
  ·refine .inl ⟨hstep.trans h1,fun e he=>?_⟩
   rcases List.mem_cons.1 he with rfl | he
   ·exact hne
   exact h2 e he
  refine .inr ⟨j + 1,e,by rw [hstep,h1,show i + 1 + j=i + (j + 1) by omega],by simpa using h2,h3,fun q hq e' he'=>?_,by rw [fF _ hne]; exact h5⟩
  cases q with
  | zero=>simp at he'; subst he'; exact hne
  | succ q=>exact h4 q (by omega) e' (by simpa using he')
theorem x8 {P:Program} {w:World} {kt e:TypeId} {n:Int} {ti te:TI} (ht:bq P kt=some ti) (hk:ti.kind = .array 2 e) (hte:bq P e=some te) (hki:te.kind = .int .i64) (hsz:te.size=1):zJ P w kt .i8 n:=by
 have hu:=oH ht hk
 have hue:=qN hte hki
 obtain ⟨i,de,z,h1,h2,h3,h4,h5,h6,h7,h8⟩:=aZ hte
 have hce:P.cellsOf e=1:=by simp [Program.cellsOf,h1,h4,hsz]
 have hso:∀ w,(sizeOf e).run P w = .ok 1 w:=fun w=>by rw [eR hte,hsz]
 have ag:∀ w,(isAgg e).run P w = .ok false w:=fun w=>by simp [isAgg,run_underlying hue]
 have q0:∀ (x y:Value) w,(part e #[x,y] 0).run P w = .ok x w:=fun x y w=>by simp [part,ag]
 have q1:∀ (x y:Value) w,(part e #[x,y] 1).run P w = .ok y w:=fun x y w=>by simp [part,ag]
 have en:∀ (p q:Int) w,(Op.equalIn 9999 e (.int .i64 p) (.int .i64 q)).run P w = .ok (p == q) w:=fun p q w=>fq 9998 hue p q w
 have heq:∀ y,(Op.equal kt (bH .i8 n) (bH .i8 y)).run P w = .ok (decide (n=y)) w:=fun y=>by
  show (Op.equalIn 10000 kt (bH .i8 n) (bH .i8 y)).run P w=_
  rw [fc,fc,run_equalIn_array w 9999 _ _ hu h1,hce]
  have hiff:n=y↔(n / dT=y / dT∧n % dT=y % dT):=⟨fun h=>by rw [h]; exact ⟨rfl,rfl⟩,fun h=>by
   have e1:=Int.mul_ediv_add_emod n dT
   have e2:=Int.mul_ediv_add_emod y dT
   rw [h.1,h.2] at e1
   exact e1.symm.trans e2⟩
  simp only [show List.range 2=[0,1] from rfl,Op.eqItems,Sem.run_bind,q0,q1,Result.andThen_ok,Nat.zero_mul,Nat.one_mul,Nat.mul_one,en]
  by_cases h1:n / dT=y / dT
  ·by_cases h2:n % dT=y % dT
   ·rw [decide_eq_true (hiff.2 ⟨h1,h2⟩)]; simp [q1,en,h1,h2]
   rw [decide_eq_false fun h=>h2 (hiff.1 h).2]; simp [q1,en,h1,h2]
  rw [decide_eq_false fun h=>h1 (hiff.1 h).1]; simp [q1,en,h1]
 have hck:∀ em m x,(Instr.checkKey em (m + 1) e (.int .i64 x)).run P w = .ok () w:=fun em m x=>by simp [Instr.checkKey,run_underlying hue]
 refine ⟨fun em=>?_,?_,fun es h=>?_⟩
 ·rw [fc]
  have gen:∀ m,(Instr.checkKey em (m + 1 + 1) kt (.agg #[.int .i64 (n / dT),.int .i64 (n % dT)])).run P w = .ok () w:=fun m=>by
   rw [Instr.checkKey]
   simp only [Sem.run_bind,run_underlying hu,Result.andThen_ok]
   simp only [Std.Legacy.Range.forIn_eq_forIn_range',Std.Legacy.Range.size,Nat.sub_zero,Nat.add_one_sub_one,Nat.div_one,show List.range' 0 2=[0,1] from rfl]
   have c:=hck em m
   simp [hso,q0,q1,c]
  exact gen 9998
 ·rw [fc]
  have hint:∀ (m:Nat) (x:Int),Instr.sameBits m (.int .i64 x) (.int .i64 x)=true:=fun m x=>by cases m<;>simp [Instr.sameBits]
  have:∀ (m:Nat) (x y:Int),Instr.sameBits (m + 1) (.agg #[.int .i64 x,.int .i64 y]) (.agg #[.int .i64 x,.int .i64 y])=true:=fun m x y=>by
   simp [Instr.sameBits,hint]
  unfold Instr.keyThatStays
  rw [this 9999]
  simp
 have hw:(match P.underlying kt with | some (.array _ _) | some (.struct _)=>true | _=>false)=true:=by rw [hu]
 rw [run_findKey_eq (P:=P) w hw]
 rcases mZ heq es 0 h with h | ⟨j,e0,h1,h2⟩
 ·exact .inl h
 rw [Nat.zero_add] at h1
 exact .inr ⟨j,e0,h1,h2⟩
include hT in
theorem vp (R:Rel C m s a.tmps w) {y:Operand} {kt:TypeId} {vc:Prop} {kk:IntKind} {n:Int} (h:xj T kt (s.ev y)=some (vc,kk,n)) (hvc:vc):zJ P w kt kk n∧a.eval y=bH kk n:=by
 unfold xj at h
 split at h
 ·rename_i kk' z hy
  split at h
  ·rename_i kk0 hkk
   split at h
   ·cases h
   rename_i h8
   simp only [Option.some.injEq,Prod.mk.injEq] at h
   obtain ⟨rfl,rfl,rfl⟩:=h
   subst hvc
   obtain ⟨tk,htk,hkd⟩:=fJ hkk
   refine ⟨xf (qN (hT _ _ htk) hkd) h8,?_⟩
   rw [ee h8]
   exact eY R hy
  cases h
 ·rename_i p q hy
  split at h
  ·rename_i n0 e hkk
   split at h
   ·rename_i te hte
    simp only [Option.some.injEq,Prod.mk.injEq] at h
    obtain ⟨rfl,rfl,rfl⟩:=h
    obtain ⟨rfl,b1,b2,b3,b4⟩:=hvc
    obtain ⟨tk,htk,hkd⟩:=fJ hkk
    refine ⟨x8 (hT _ _ htk) hkd (hT _ _ hte) b1 b2,?_⟩
    rw [show (1099511627776:Int)=dT from rfl,Ct b3 b4]
    have hv:=R.ev y
    rw [hy] at hv
    obtain ⟨x1,x2,ex,e1,e2⟩:=hv.aQ.oJ
    rw [ex,e1.dz,e2.dz]
   cases h
  cases h
 cases h
include hT in
theorem ns (R:Rel C m s a.tmps w) {o:Oper} {t:TypeId} {x y z:Operand} (ho:o.op = .mapUpdate t x y z) {ti:TI} (ht:T t=some ti) {r:OV} (h:ik T ti s.H (s.ev x) (s.ev y) (s.ev z)=some r) (hvc:r.vc) :
  ∃ v w' m',Yields P o a w v w'∧Rel C m' { s with H:=r.H } a.tmps w'∧aH (Reads (OK C m' r.H w') w') m' r.H r.av v:=by
 unfold ik at h
 split at h
 ·rename_i kt et zo hkind
  split at h
  ·rename_i vc kk0 n hkk
   split at h
   ·rename_i j pv hx hz
    split at h
    ·rename_i kk d v hg
     simp only [Option.some.injEq] at h
     subst h
     obtain ⟨e1,e2⟩:kk0=kk∧vc:=hvc
     subst e1
     obtain ⟨hko,hye⟩:=vp hT R hkk e2
     have hm:=(yu (hT _ _ ht) hkind).1
     have hxe:=R.ev x
     rw [hx] at hxe
     have hze:=R.ev z
     rw [hz] at hze
     have hze:=hze.aQ
     generalize hxv:a.eval x=xv at hxe
     cases hxe with
     | mptr _ _ hkl hp =>
      obtain ⟨l,hml,rfl⟩:=hp
      have hk:=b9 hg (by simp)
      obtain ⟨l',ar,clk,vs,a1,a2,a3,a4,a5,a6,a7⟩:=R.mp.1 j kk0 d v hk
      rw [hml] at a1; cases a1
      have hbeq:∀ u:Int,(u == n)=true↔u=n:=fun u=>by simp
      rcases hko.find ar.toList a4.1 with ⟨h1,h2⟩ | ⟨i,e0,h1,h2,h3,h4,h5⟩
      ·have hn:p4 kk0 n ar.toList=none:=oM h2
       refine ⟨undef,_,m,.inr ⟨?_,rfl⟩,R.DA hk hml (d':=fun u=>u == n || d u) (v':=fun u=>bif u == n then pv else v u) (ar:=ar.push { key:=bH kk0 n,val:=a.eval z,born:=clk }) (clk:=clk + 1) (vs:=fun u=>if u=n then a.eval z else vs u) ⟨fun e he=>?_,?_,fun e he=>?_,?_⟩ (fun u hu=>?_) (fun u hu=>?_) (fun u hu=>?_),.dead _⟩
       ·simp [execOp,ho,Instr.mapUpdate,hxv,hye,run_underlying hm,MapKept.run_getObj_map a3,hko.Dy,h1,MapKept.run_setObj_map _ a3,Result.andThen]
       ·rw [Array.toList_push,List.mem_append,List.mem_singleton] at he
        rcases he with he | rfl
        ·exact a4.1 e he
        exact ⟨n,rfl⟩
       ·rw [Array.toList_push,List.map_append,List.nodup_append]
        refine ⟨a4.2.1,by simp,fun x hx y hy e=>?_⟩
        obtain ⟨e0,he0,rfl⟩:=List.mem_map.1 hx
        simp only [List.map_cons,List.map_nil,List.mem_singleton] at hy
        exact h2 e0 he0 (e.trans hy)
       ·rw [Array.toList_push,List.mem_append,List.mem_singleton] at he
        rcases he with he | rfl
        ·exact Nat.lt_succ_of_lt (a4.2.2.1 e he)
        exact Nat.lt_succ_self _
       ·rw [Array.toList_push,List.map_append,List.nodup_append]
        refine ⟨a4.2.2.2,by simp,fun x hx y hy e=>?_⟩
        obtain ⟨e0,he0,rfl⟩:=List.mem_map.1 hx
        simp only [List.map_cons,List.map_nil,List.mem_singleton] at hy
        have:=a4.2.2.1 e0 he0
        omega
       ·simp only [Bool.or_eq_false_iff] at hu
        have hun:u ≠ n:=fun e=>by rw [(hbeq u).2 e] at hu; cases hu.1
        rw [Array.toList_push,om,a5 u hu.2]
        have:iM kk0 u (bH kk0 n)=false:=by
         cases h' : iM kk0 u (bH kk0 n) with
         | false=>rfl
         | true=>exact absurd (jd (jI.1 h')).symm hun
        simp only [this,cond_false]
       ·rw [Array.toList_push,om]
        by_cases hun:u=n
        ·subst hun
         rw [hn,if_pos rfl]
         simp only [jI.2 rfl,cond_true]
        have hd:d u=true:=by simpa [hun] using hu
        rw [a6 u hd,if_neg hun]
       by_cases hun:u=n
       ·subst hun
        simp only [beq_self_eq_true,cond_true,if_true]; exact hze
       have hd:d u=true:=by simpa [hun] using hu
       have hb:(u == n)=false:=by simpa using hun
       simp only [hb,cond_false,if_neg hun]; exact a7 u hd
      have hi:ar[i]? = some e0:=by simpa using h2
      have hlist:(ar.modify i fun e=>{ e with key:=bH kk0 n,val:=a.eval z }).toList=ar.toList.modify i fun e=>{ e with key:=bH kk0 n,val:=a.eval z }:=Array.toList_modify ..
      have hdn:d n=true:=by
       cases hd:d n with
       | true=>rfl
       | false=>rw [a5 n hd] at h5; cases h5
      refine ⟨undef,_,m,.inr ⟨?_,rfl⟩,R.DA hk hml (d':=fun u=>u == n || d u) (v':=fun u=>bif u == n then pv else v u) (ar:=ar.modify i fun e=>{ e with key:=bH kk0 n,val:=a.eval z }) (clk:=clk) (vs:=fun u=>if u=n then a.eval z else vs u) ⟨fun e he=>?_,?_,fun e he=>?_,?_⟩ (fun u hu=>?_) (fun u hu=>?_) (fun u hu=>?_),.dead _⟩
      ·simp [execOp,ho,Instr.mapUpdate,hxv,hye,run_underlying hm,MapKept.run_getObj_map a3,hko.Dy,h1,hi,h3,hko.stay,MapKept.run_setObj_map _ a3,Result.andThen]
      ·rw [hlist] at he
       obtain ⟨q,hq,rfl⟩:=List.getElem_of_mem he
       rw [List.getElem_modify]
       split
       ·exact ⟨n,rfl⟩
       exact a4.1 _ (List.getElem_mem _)
      ·rw [hlist,jg h2 h3]; exact a4.2.1
      ·rw [hlist] at he
       obtain ⟨q,hq,rfl⟩:=List.getElem_of_mem he
       rw [List.getElem_modify]
       have hq2:q < ar.toList.length:=by rw [List.length_modify] at hq; exact hq
       split
       ·exact a4.2.2.1 ar.toList[q] (List.getElem_mem hq2)
       exact a4.2.2.1 ar.toList[q] (List.getElem_mem hq2)
      ·rw [hlist,iJ]; exact a4.2.2.2
      ·simp only [Bool.or_eq_false_iff] at hu
       have hun:u ≠ n:=fun e=>by rw [(hbeq u).2 e] at hu; cases hu.1
       rw [hlist,kj h2 h3 h4,if_neg hun]; exact a5 u hu.2
      ·rw [hlist,kj h2 h3 h4]
       by_cases hun:u=n
       ·rw [if_pos hun,if_pos hun]
       have hd:d u=true:=by simpa [hun] using hu
       rw [if_neg hun,if_neg hun]; exact a6 u hd
      by_cases hun:u=n
      ·subst hun
       simp only [beq_self_eq_true,cond_true,if_true]; exact hze
      have hd:d u=true:=by simpa [hun] using hu
      have hb:(u == n)=false:=by simpa using hun
      simp only [hb,cond_false,if_neg hun]; exact a7 u hd
    cases h
   cases h
  cases h
 cases h
include hT in
theorem rC (R:Rel C m s a.tmps w) {o:Oper} {t:TypeId} {x y:Operand} {ok:Bool} (ho:o.op = .lookup t x y ok) {ti:TI} (ht:T t=some ti) {r:OV} (h:fC T ti ok s.H (s.ev x) (s.ev y)=some r) (hvc:r.vc) :
  r.H=s.H∧∃ v,(execOp a.eval o).run P w = .ok (.value v) w∧aH (Reads (OK C m s.H w) w) m s.H r.av v:=by
 unfold fC at h
 split at h
 ·rename_i kt et zv hkind
  split at h
  ·rename_i vc kk0 n hkk
   split at h
   ·rename_i j hx
    split at h
    ·rename_i kk d v zp hg hcz
     simp only [Option.some.injEq] at h
     subst h
     obtain ⟨e1,e2⟩:kk0=kk∧vc:=hvc
     subst e1
     obtain ⟨hko,hye⟩:=vp hT R hkk e2
     obtain ⟨hm,hz0⟩:=yu (hT _ _ ht) hkind
     have hxe:=R.ev x
     rw [hx] at hxe
     generalize hxv:a.eval x=xv at hxe
     cases hxe with
     | mptr _ _ hkl hp =>
      obtain ⟨l,hml,rfl⟩:=hp
      have hk:=b9 hg (by simp)
      obtain ⟨l',ar,clk,vs,a1,a2,a3,a4,a5,a6,a7⟩:=R.mp.1 j kk0 d v hk
      rw [hml] at a1; cases a1
      obtain ⟨i,hi,hz1⟩:=Option.bind_eq_some_iff.1 hz0.symm
      have hzr:(zeroValue et).run P w = .ok zv w:=by simp [zeroValue,typeInfo,hi,hz1]
      have hzv:Reads (OK C m s.H w) w zp zv:=by
       have:=oU (C:=C) (m:=m) (H:=s.H) (w:=w) zv
       rw [hcz] at this
       exact this.aQ
      have fin:∀ (v0:Value) (b:Bool) (p0:PV),Reads (OK C m s.H w) w p0 v0→aH (Reads (OK C m s.H w) w) m s.H (bif ok then .p (.tup [p0,.bool b]) else .p p0) (if ok=true then .tuple #[v0,.bool b] else v0):=fun v0 b p0 h0=>by
       cases ok with
       | false=>exact .p _ _ h0
       | true =>
        refine .p _ _ (.tup _ _ rfl fun c hc=>?_)
        match c,hc with
        | 0,_=>exact h0
        | 1,_=>exact .bool b
      rcases hko.find ar.toList a4.1 with ⟨h1,h2⟩ | ⟨i,e0,h1,h2,h3,h4,h5⟩
      ·have hdn:d n=false:=by
        cases hd:d n with
        | false=>rfl
        | true=>have:=a6 n hd; rw [oM h2] at this; cases this
       refine ⟨rfl,if ok=true then .tuple #[zv,.bool false] else zv,?_,?_⟩
       rotate_left
       ·have:=fin zv false zp hzv
        simp only [hdn,cond_false]
        exact this
       simp [execOp,ho,Instr.lookup,hxv,hye,run_underlying hm,MapKept.run_getObj_map a3,hko.Dy,h1,hzr,Result.andThen]
      have hdn:d n=true:=by
       cases hd:d n with
       | true=>rfl
       | false=>rw [a5 n hd] at h5; cases h5
      have hv0:vs n=e0.val:=by have:=a6 n hdn; rw [h5] at this; exact (Option.some.inj this).symm
      refine ⟨rfl,if ok=true then .tuple #[e0.val,.bool true] else e0.val,?_,?_⟩
      rotate_left
      ·have:=fin e0.val true (v n) (by rw [← hv0]; exact a7 n hdn)
       simp only [hdn,cond_true]
       exact this
      simp [execOp,ho,Instr.lookup,hxv,hye,run_underlying hm,MapKept.run_getObj_map a3,hko.Dy,h1,Result.andThen]
    cases h
   cases h
  cases h
 cases h
include hT in
theorem dL {o:Oper} {r:OV} (h:bW T s o.op=some r) (hvc:r.vc):Al P o s r.av r.H:=by
 intro C m a w R
 have pure:∀ {r:OV},(r.H=s.H∧∃ v,(execOp a.eval o).run P w = .ok (.value v) w∧aH (Reads (OK C m s.H w) w) m s.H r.av v) →
   ∃ v w' m',Yields P o a w v w'∧Rel C m' { s with H:=r.H } a.tmps w'∧aH (Reads (OK C m' r.H w') w') m' r.H r.av v:=by
  rintro r ⟨e,v,hr,hv⟩
  rw [e]
  exact still R hr hv
 generalize hop:o.op=op at h
 unfold bW at h
 split at h
 ·cases h; exact still R (by simp [execOp,hop]) (R.ev _)
 ·cases h; exact still R (by simp [execOp,hop]) (R.ev _)
 ·exact pure (uD R hop h)
 ·exact pure (xi hT R hop h hvc)
 ·exact pure (yO R hop h hvc)
 ·exact pure (u0 hT R hop h)
 ·split at h
  ·rename_i ti ht; exact pure (pa hT R hop ht h hvc)
  cases h
 ·split at h
  ·rename_i ti ht; exact sS hT R hop ht h hvc
  cases h
 ·split at h
  ·rename_i ti ht; exact pure (nh hT R hop ht h hvc)
  cases h
 ·split at h
  ·rename_i ti ht
   cases hl:(s.ev _).isAgg<;>rw [hl] at h
   ·cases h
   exact pure (su hT R hop ht hl h hvc)
  cases h
 ·split at h
  ·rename_i ti ht; exact pure (nf hT R hop ht h hvc)
  cases h
 ·split at h
  ·rename_i ti ht; exact pure (tA hT R hop ht h hvc)
  cases h
 ·split at h
  ·rename_i ti ht; cases h; exact mJ hT R hop ht hvc
  cases h
 ·cases h; exact w6 R hop hvc
 ·split at h
  ·rename_i ti ht; exact nc hT R hop ht h hvc
  cases h
 ·split at h
  ·rename_i ti ht; exact pure (sX hT R hop ht h hvc)
  cases h
 ·split at h
  ·rename_i ti ht
   obtain ⟨e,v,w',hr,hb,hv⟩:=l7 hT R hop ht h hvc
   rw [e]
   exact ⟨v,w',m,.inl hr,R.later hb,hv⟩
  cases h
 ·exact pure (pC R hop h hvc)
 ·rename_i f first caps
  cases hl:first.isEmpty<;>rw [hl] at h
  ·cases h
  exact pure (pj R hop hl h hvc)
 ·rename_i b args ts
  obtain ⟨args⟩:=args
  obtain ⟨ts⟩:=ts
  simp only [cH] at h
  split at h
  ·rename_i x t hargs
   rcases args with _ | ⟨x',_ | ⟨u,l⟩⟩<;>simp only [List.map_cons,List.map_nil,List.cons.injEq,and_true,reduceCtorEq,and_false] at hargs
   split at h
   ·rename_i ti ht
    rw [← hargs] at h
    exact pure (xI hT R hop ht h)
   cases h
  ·rename_i x y t t' hargs
   rcases args with _ | ⟨x',_ | ⟨y',_ | ⟨u,l⟩⟩⟩<;>simp only [List.map_cons,List.map_nil,List.cons.injEq,and_true,reduceCtorEq,and_false] at hargs
   split at h
   ·rename_i ti ht
    split at h
    ·rename_i e
     subst e
     rw [← hargs.1,← hargs.2] at h
     exact rz hT R hop ht h hvc
    cases h
   cases h
  ·exact pure (k8 R (.inl ⟨rfl,rfl⟩) hop h)
  ·exact pure (k8 R (.inr ⟨rfl,rfl⟩) hop h)
  cases h
 ·split at h
  ·rename_i ti ht; exact py hT R hop ht h
  cases h
 ·split at h
  ·rename_i ti ht; exact ns hT R hop ht h hvc
  cases h
 ·split at h
  ·rename_i ti ht; exact pure (rC hT R hop ht h hvc)
  cases h
 ·exact pure (xX R hop h)
 ·split at h
  ·rename_i ti ht; exact pure (tB hT R hop ht h hvc)
  cases h
 cases h
end
open Go.RowKit
def WF (r:Option Nat):Fence:={ Fence.wide with round:=r }
def vJ:Op→Bool
 | .defer _=>false
 | _=>true
theorem yE {op:Op} (h:vJ op=true):∀ c,op ≠ .defer c:=by rintro c rfl; cases h
def FP (P:Program) (o:Oper) (a:Act) (next:Act→World→Prop) (Q:Exit→Act→World→Prop):Result Next→Prop
 | .ok (.round l f tmps assign body) w'=>RoundIn Fence.wide 0 P l f tmps assign body w' fun
   | .returned v,w''=>next (a.put o.dst v) w''
   | .panicked chain,w''=>Q (.panic chain) a w''
   | .outgrown,_=>LetsOut Q
 | x=>o.upon P a next Q x
def A8 (P:Program) (o:Oper) (a:Act) (w:World) (K:Act→World→Prop) (Q:Exit→Act→World→Prop):Prop:=
 vJ o.op=true∧FP P o a K Q ((execOp a.eval o).run P w)
theorem EF {P:Program} {o:Oper} {a:Act} {K:Act→World→Prop} {Q:Exit→Act→World→Prop} {x:Result Next} (h:o.upon P a K Q x):FP P o a K Q x:=by
 cases x with
 | halt y w=>exact h
 | ok y w=>cases y<;>first|exact h|exact h.elim
theorem eF {P:Program} {o:Oper} {a:Act} {w:World} {K:Act→World→Prop} {Q:Exit→Act→World→Prop} (hn:vJ o.op=true) (h:o.wp P a w K Q):A8 P o a w K Q:=⟨hn,EF h⟩
theorem zW {P:Program} {o:Oper} {a:Act} {K K' : Act→World→Prop} {Q Q' : Exit→Act→World→Prop} {x:Result Next} (hk:∀ a w,K a w→K' a w) (hp:∀ ch a w,Q (.panic ch) a w→Q' (.panic ch) a w) (ho:∀ a w,Q .outgrown a w→Q' .outgrown a w) (h:FP P o a K Q x):FP P o a K' Q' x:=by
 have hl:LetsOut Q→LetsOut Q':=fun ⟨a,w,h⟩=>⟨a,w,ho a w h⟩
 cases x with
 | halt y w=>cases y<;>simp only [FP,Oper.upon] at h ⊢<;>first|exact h|exact hp _ _ _ h
 | ok y w =>
  cases y<;>simp only [FP,Oper.upon] at h ⊢ <;>
   first
    | exact hk _ _ h
    | exact Calls.mono h (fun e w'' he=>by cases e<;>first|exact hk _ _ he|exact hp _ _ _ he|exact hl he)
    | exact Rows.mono h (fun _ _ he=>hk _ _ he)
    | exact RoundIn.mono h (fun e w'' he=>by cases e<;>first|exact hk _ _ he|exact hp _ _ _ he|exact hl he)
    | exact h
theorem sN {P:Program} {o:Oper} {a:Act} {w:World} {K K' : Act→World→Prop} {Q Q' : Exit→Act→World→Prop} (hk:∀ a w,K a w→K' a w) (hp:∀ ch a w,Q (.panic ch) a w→Q' (.panic ch) a w) (ho:∀ a w,Q .outgrown a w→Q' .outgrown a w) (h:A8 P o a w K Q):A8 P o a w K' Q':=⟨h.1,zW hk hp ho h.2⟩
theorem A8.oO {P:Program} {o:Oper} {a:Act} {w:World} {K:Act→World→Prop} {Q:Exit→Act→World→Prop} (r:Option Nat) (h:A8 P o a w K Q):o.wpIn (WF r) 0 P a w K Q:=by
 refine ⟨fun _ _=>trivial,?_⟩
 rw [Oper.semAt_eq _ _ _ (yE h.1)]
 have h2:=h.2
 generalize (execOp a.eval o).run P w=x at h2
 have hd:(WF r).depth.isSome=true→1≤0:=fun h=>by cases h
 cases x with
 | halt y w=>cases y<;>exact h2
 | ok y w =>
  cases y with
  | enter f args=>exact ⟨hd,(callsIn_wide (n:=0)).2 h2⟩
  | row row args=>exact ⟨hd,fun c cs _=>let ⟨v,w',r,s⟩:=h2 c cs; ⟨v,w',r,(stepsIn_wide (P:=P)).2 s⟩⟩
  | round l f tmps assign body=>exact ⟨hd,h2⟩
  | _=>exact h2
def pE (r:Option Nat) (P:Program) (c:Code) (Q:Exit→Act→World→Prop) (a:Act) (w:World):Prop:=c.wpIn (WF r) 0 P Q a w
section
variable {r:Option Nat} {P:Program} {Q:Exit→Act→World→Prop} {a:Act} {w:World}
theorem o7 {c:Code} : pE none P c Q a w↔c.wp P Q a w:=wpIn_wide (n:=0)
theorem fY {c:Code} {Q' : Exit→Act→World→Prop} (h:pE r P c Q a w) (hq:∀ e a w,Q e a w→Q' e a w):pE r P c Q' a w:=wpIn_mono h hq
theorem yn (h:Q .normal a w):pE r P .skip Q a w:=wpIn_skip h
theorem zz {id:Nat} (h:Q (.exit id) a w):pE r P (.exit id) Q a w:=wpIn_exit h
theorem Br (h:Q .ret a w):pE r P .ret Q a w:=wpIn_ret h
theorem Cs {x y:Code} (h:pE r P x (Exit.then (pE r P y Q) Q) a w):pE r P (.seq x y) Q a w:=wpIn_seq h
theorem oN {c:Operand} {x y:Code} {t:Bool} (hc:a.eval c = .bool t) (ht:t=true→pE r P x Q a w) (hf:t=false→pE r P y Q a w):pE r P (.cond c x y) Q a w:=wpIn_cond_split hc ht hf
theorem wZ {id:Nat} {c:Code} (h:pE r P c (Exit.inBlock id Q) a w):pE r P (.block id c) Q a w:=wpIn_block h
theorem y9 {c:Code} (I:Act→World→Prop) (μ:Act→World→Nat) (h₀:I a w) (round:∀ a w,I a w→pE r P c (Exit.then (fun a' w'=>I a' w'∧μ a' w' < μ a w) Q) a w):pE r P (.loop c) Q a w:=wpIn_loop I μ h₀ round
theorem kq {c:Code} (h:pE r P c (Exit.noGoto Q) a w):pE r P (.scope c) Q a w:=by
 intro b k cs hro hb hr
 have hf:∀ m,Machine.fenced P (WF r) m:=fun m=>fenced_wide P m
 have s1:StepsIn (Machine.fenced P (WF r)) P (lone (b.atR a (.code (.scope c) :: k)) cs w) (lone (b.atR a (.code c :: .inScope c :: k)) cs w):=.one (hf _) (step_lone_go (by simp [stepG,stepG.exec,Frame.atR]))
 obtain ⟨e,a₁,w₁,hq,harr⟩:=h b (.inScope c :: k) cs hro hb hr
 cases e with
 | normal=>exact ⟨.normal,a₁,w₁,hq,StepsIn.trans s1 (StepsIn.trans harr (.one (hf _) (step_lone_go (by simp [stepG,stepG.exec,Frame.atR]))))⟩
 | exit id =>
  have hx:exitTo id (.inScope c :: k)=exitTo id k:=by simp [exitTo]
  exact ⟨.exit id,a₁,w₁,hq,fun k' hk=>StepsIn.trans s1 (harr.1 k' (by rw [hx]; exact hk)),
   fun hr' hk=>let ⟨k₁,h1,h2⟩:=harr.2 hr' (by rw [hx]; exact hk); ⟨k₁,h1,StepsIn.trans s1 h2⟩⟩
 | goto l=>exact hq.elim
 | ret=>exact ⟨_,a₁,w₁,hq,.of_steps s1 harr⟩
 | panic ch=>exact ⟨_,a₁,w₁,hq,.of_steps s1 harr⟩
 | outgrown=>exact ⟨_,a₁,w₁,hq,.of_steps s1 harr⟩
def lG (P:Program) (ops:Array Oper) (Q:Exit→Act→World→Prop):List Oper→Act→World→Prop
 | [],a,w=>Q .normal a w
 | o :: rest,a,w=>if Region.wanted o (yielded ops a.tmps) then A8 P o a w (lG P ops Q rest) Q else lG P ops Q rest (a.put o.dst undef) w
theorem xO {ops:Array Oper} {o:Oper} {rest:List Oper} (h:∀ K:Act→World→Prop,(∀ a w,lG P ops Q rest a w→K a w)→if Region.wanted o (yielded ops a.tmps) then A8 P o a w K Q else K (a.put o.dst undef) w):lG P ops Q (o :: rest) a w:=h _ fun _ _ h=>h
theorem xC {ops:Array Oper} {o:Oper} {rest:List Oper} (hw:Region.wanted o (yielded ops a.tmps)=false) (h:lG P ops Q rest (a.put o.dst undef) w):lG P ops Q (o :: rest) a w:=by
 simp only [lG,hw]; exact h
theorem lG.oO {ops:Array Oper} : ∀ {l:List Oper} {a:Act} {w:World},lG P ops Q l a w→wpListIn (WF r) 0 P ops Q l a w
 | [],a,w,h=>h
 | o :: l,a,w,h=>by
  simp only [lG] at h
  simp only [wpListIn]
  by_cases hw:Region.wanted o (yielded ops a.tmps)=true
  ·rw [if_pos hw] at h ⊢
   exact (sN (fun _ _ hh=>lG.oO hh) (fun _ _ _ h=>h) (fun _ _ h=>h) h).oO r
  rw [if_neg hw] at h ⊢
  exact ⟨fun _ _=>trivial,lG.oO h⟩
theorem oL {id:Nat} {l:List Oper} (h:lG P l.toArray Q l a w):pE r P (.region id l.toArray false) Q a w:=wpIn_region_lit h.oO
def Hk (P:Program) (ops:Array Oper) (Q:Exit→Act→World→Prop) (i:Nat) (K:Act→World→Prop) (a:Act) (w:World):Prop:=
 match ops[i]? with
 | none=>K a w
 | some o=>if Region.wanted o (yielded ops a.tmps) then A8 P o a w K Q∨False else K (a.put o.dst undef) w
def nt (P:Program) (md:Region.Mode) (ops:Array Oper) (Q:Exit→Act→World→Prop):Nat→Array Bool→Act→World→Prop
 | 0,listed,a,w=>Region.ready md ops listed=[]∧Q .normal a w
 | fuel + 1,listed,a,w =>
  (Region.ready md ops listed=[]→Q .normal a w) ∧
  ∀ i∈Region.ready md ops listed,Hk P ops Q i (nt P md ops Q fuel (listed.setIfInBounds i true)) a w
theorem nt.oO {md:Region.Mode} {ops:Array Oper} : ∀ {fuel:Nat} {listed:Array Bool} {a:Act} {w:World},nt P md ops Q fuel listed a w→wpAnyIn (WF r) 0 P md ops Q fuel listed a w
 | 0,_,_,_,h=>h
 | fuel + 1,listed,a,w,h=>by
  refine ⟨h.1,fun i hi=>?_⟩
  have h2:=h.2 i hi
  unfold Hk at h2
  unfold wpOpIn
  split at h2
  ·rename_i e; simp only [e]; exact h2.oO
  rename_i o e
  simp only [e]
  by_cases hw:Region.wanted o (yielded ops a.tmps)=true
  ·rw [if_pos hw] at h2 ⊢
   exact (sN (fun _ _ hh=>nt.oO hh) (fun _ _ _ h=>h) (fun _ _ h=>h) (h2.resolve_right fun h=>h)).oO r
  rw [if_neg hw] at h2 ⊢
  exact ⟨fun _ _=>trivial,h2.oO⟩
theorem jb {id:Nat} {ops:Array Oper} (hm:P.follows .mixedOrders=true) (h:nt P .any ops Q ops.size (Array.replicate ops.size false) a { w with drawn:=w.drawn + 1 }):pE r P (.region id ops true) Q a w:=wpIn_region_any hm h.oO
end
def fe (P:Program) (o:Oper) (s:St) (av:AV) (H' : aw):Prop:=
 ∀ C m (a:Act) w (K:Act→World→Prop) (Q:Exit→Act→World→Prop),Rel C m s a.tmps w →
  (∀ v m' w',Rel C m' { s with H:=H' } a.tmps w'→aH (Reads (OK C m' H' w') w') m' H' av v→K (a.put o.dst v) w')→A8 P o a w K Q
theorem Al.wp {P:Program} {o:Oper} {s:St} {av:AV} {H' : aw} (h:Al P o s av H'):fe P o s av H':=by
 intro C m a w K Q R hK
 obtain ⟨v,w',m',hy,R',hv⟩:=h C m a w R
 have:=hK v m' w' R' hv
 have hn:vJ o.op=true:=by
  cases ho:o.op with
  | «defer» c =>
   exfalso
   have e:(execOp a.eval o).run P w=(resolve a.eval c o.type >>= fun d=>pure (.defer d)).run P w:=by simp only [execOp,ho]
   unfold Yields at hy
   rw [e,Sem.run_bind] at hy
   cases hres:(resolve a.eval c o.type).run P w with
   | ok d w2=>rw [hres] at hy; simp [Result.andThen,Sem.run_pure] at hy
   | halt y w2=>rw [hres] at hy; simp [Result.andThen] at hy
  | _=>rfl
 rcases hy with hr | ⟨hr,rfl⟩
 ·refine eF hn ?_; unfold Oper.wp; rw [hr]; exact this
 refine eF hn ?_; unfold Oper.wp; rw [hr]; exact this
def kL:Op→Bool
 | .store _ _ _ | .alloc _ | .box _ _ | .makeSlice _ _ _ | .makeMap _ _ | .mapUpdate _ _ _ _=>true
 | .call { callee:=.builtin .append,.. }=>true
 | _=>false
def jF:Op→Bool
 | .nilCheck _ | .index _ _ _ | .move _ | .assign _ | .pick _ _ _ | .binOp _ _ _ _ _ | .unOp _ _ _ | .convert _ _ _ | .fieldAddr _ _ _ | .field _ _ _ | .indexAddr _ _ _ | .slice _ _ _ _ _ | .extract _ _ | .build _ _ | .buildSlice _ _ _=>false
 | .call { callee:=.builtin .len,.. }=>false
 | .call { callee:=.builtin .min,.. }=>false
 | .call { callee:=.builtin .max,.. }=>false
 | _=>true
def fx (o:Oper) (s s2:St):Prop:=∀ x∈o.op.operands,s2.ev x=s.ev x
structure B2 (P:Program) (o:Oper) (s:St) (av:AV) (H' : aw):Prop where
 here:∀ s2:St,s2.n=s.n→fx o s s2→s2.H=s.H→fe P o s2 av H'
 free:jF o.op=false→H' = s.H∧∀ s2:St,s2.n=s.n→fx o s s2→fe P o s2 av s2.H
 calm:kL o.op=false→H' = s.H
theorem pn {ok:Nat→Prop} {w:World} : Reads ok w (.tup []) undef:=.tup [] #[] rfl fun c h=>absurd h (Nat.not_lt_zero c)
def bw (all:Array Oper) (s:St) (o:Oper):Option Bool:=
 match o.guard with
 | none=>some true
 | some (j,want) =>
  match (all[j]?).bind (·.dst) with
  | some d=>match s.get d with | .p (.bool b)=>some (b == want) | .p (.tup [])=>some false | _=>none
  | none=>none
inductive AX (P:Program) (draw:Bool) (all:Array Oper) (o:Oper):St→St→Prop
 | skip (s:St) (hg:bw all s o=some false) (hd:∀ t,o.dst=some t→t < s.n):AX P draw all o s (s.put o.dst (.p (.tup [])))
 | op (s:St) (av:AV) (H' : aw) (hg:bw all s o=some true) (hd:∀ t,o.dst=some t→t < s.n) (h:fe P o s av H') (hl:draw=true→B2 P o s av H'):AX P draw all o s ({ s with H:=H' }.put o.dst av)
inductive nv (P:Program) (draw:Bool) (all:Array Oper):List Oper→St→St→Prop
 | nil (s:St):nv P draw all [] s s
 | cons {o:Oper} {r:List Oper} {s s1 s2:St} (h:AX P draw all o s s1) (hr:nv P draw all r s1 s2):nv P draw all (o :: r) s s2
theorem cX {P:Program} {all:Array Oper} {C:Ctx} {m:Map} {s:St} {a:Act} {w:World} {o:Oper} {b:Bool} (R:Rel C m s a.tmps w) (h:bw all s o=some b):Region.wanted o (yielded all a.tmps)=b:=by
 have _:=P
 unfold bw at h
 unfold Region.wanted
 split at h
 ·rename_i e; rw [e]; simpa using h
 rename_i j want e
 rw [e]
 simp only
 split at h
 ·rename_i d hd
  split at h<;>simp only [Option.some.injEq,reduceCtorEq] at h
  ·rename_i x hx
   have hv:=R.slot d
   rw [hx] at hv
   have hv:=hv.aQ.fa
   have hy:yielded all a.tmps j=some x:=by
    unfold yielded
    rw [hd]
    have:a.tmps[d]? = some (.bool x):=by
     simp only [Array.getD_eq_getD_getElem?] at hv
     cases e:a.tmps[d]? with
     | none=>rw [e] at hv; simp [undef] at hv
     | some v=>rw [e] at hv; simpa using hv
    simp [this]
   rw [hy,← h]
   cases x<;>cases want<;>rfl
  rename_i hx
  have hv:=R.slot d
  rw [hx] at hv
  have hv:=hv.aQ
  have hy:yielded all a.tmps j=none:=by
   unfold yielded
   rw [hd]
   simp only [Array.getD_eq_getD_getElem?] at hv
   cases e:a.tmps[d]? with
   | none=>simp [e]
   | some v =>
    rw [e] at hv
    simp only [Option.getD_some] at hv
    cases hv
    simp [e]
  rw [hy,← h]
  cases want<;>rfl
 cases h
theorem put_defers (a:Act) (d:Option Tmp) (v:Value):(a.put d v).defers=a.defers:=by cases d<;>rfl
theorem nv.sound {P:Program} {all:Array Oper} {Q:Exit→Act→World→Prop} {C:Ctx} {ds:List Deferred} : ∀ {ops:List Oper} {s s' : St} {draw:Bool},nv P draw all ops s s'→∀ {m:Map} {a:Act} {w:World},Rel C m s a.tmps w→a.defers=ds →
  (∀ m' (a' : Act) w',Rel C m' s' a'.tmps w'→a'.defers=ds→Q .normal a' w')→lG P all Q ops a w:=by
 intro ops
 induction ops with
 | nil =>
  intro s s' draw h m a w R hd hQ
  cases h
  exact hQ m a w R hd
 | cons o r ih =>
  intro s s' draw h m a w R hd hQ
  cases h with
  | cons h hr =>
   cases h with
   | skip hg hlt =>
    have hw:=cX (P:=P) R hg
    refine xC hw (ih hr (m:=m) ?_ (by rw [put_defers]; exact hd) hQ)
    exact R.put hlt (.p _ _ pn)
   | op av H' hg hlt h hl =>
    have hw:=cX (P:=P) R hg
    refine xO fun K hK=>?_
    rw [if_pos hw]
    refine h C m a w K Q R fun v m' w' R' hv=>hK _ _ (ih hr (m:=m') ?_ (by rw [put_defers]; exact hd) hQ)
    exact R'.put hlt hv
def mH (acc:List Nat):List Edge→Nat
 | []=>0
 | e :: es=>(if Region.binds .any e then 2 ^ e.on ||| acc.getD e.on 0 else 0) ||| mH acc es
def gh:List Oper→List Nat→List Nat
 | [],acc=>acc
 | o :: r,acc=>gh r (acc++[mH acc o.after.toList])
def dx (ops:Array Oper):List Nat:=gh ops.toList []
def gk (ops:Array Oper) (x y:Oper):Bool:=x.apart ops y && !(kL x.op && jF y.op) && !(jF x.op && kL y.op)
def bL (ops:Array Oper) (i:Nat):Oper:=ops.getD i default
theorem eN {ops:Array Oper} {i:Nat} {o:Oper} (h:ops[i]? = some o):bL ops i=o:=by simp [bL,Array.getD_eq_getD_getElem?,h]
def ry (ops:Array Oper):Bool:=
 (List.range ops.size).all fun j =>
  ((bL ops j).after.toList.all fun e=>!Region.binds .any e || e.on < j) &&
  (List.range j).all fun i=>gk ops (bL ops i) (bL ops j) || ((dx ops).getD j 0).testBit i
theorem j7 {acc:List Nat} {i:Nat} : ∀ {es:List Edge},(mH acc es).testBit i=true→∃ e∈es,Region.binds .any e=true∧(i=e.on∨(acc.getD e.on 0).testBit i=true)
 | [],h=>by simp [mH] at h
 | e :: es,h=>by
  simp only [mH,Nat.testBit_or,Bool.or_eq_true] at h
  rcases h with h | h
  ·by_cases hb:Region.binds .any e=true
   ·rw [if_pos hb,Nat.testBit_or,Bool.or_eq_true] at h
    refine ⟨e,by simp,hb,?_⟩
    rcases h with h | h
    ·left
     rw [Nat.testBit_two_pow] at h
     exact (of_decide_eq_true h).symm
    exact .inr h
   rw [if_neg hb] at h; simp at h
  obtain ⟨e',he,r⟩:=j7 h
  exact ⟨e',by simp [he],r⟩
theorem mz:∀ (l:List Oper) (acc:List Nat) (j:Nat),j < acc.length→(gh l acc).getD j 0=acc.getD j 0
 | [],acc,j,_=>rfl
 | o :: r,acc,j,h=>by
  simp only [gh]
  rw [mz r _ j (by simp; omega)]
  simp [List.getD,List.getElem?_append_left h]
theorem kg:∀ (l:List Oper) (acc:List Nat) (j:Nat) (o:Oper),l[j]? = some o→(gh l acc).getD (acc.length + j) 0=mH ((gh l acc).take (acc.length + j)) o.after.toList
 | [],acc,j,o,h=>by simp at h
 | x :: r,acc,0,o,h=>by
  simp at h; subst h
  have e:(gh (x :: r) acc).take acc.length=acc:=by
   have hlen:∀ (l:List Oper) (acc:List Nat),acc.length≤(gh l acc).length:=by
    intro l; induction l with
    | nil=>intro acc; simp [gh]
    | cons y r ih=>intro acc; simp only [gh]; have:=ih (acc++[mH acc y.after.toList]); simp at this; omega
   apply List.ext_getElem?
   intro k
   rw [List.getElem?_take]
   by_cases hk:k < acc.length
   ·rw [if_pos hk]
    have h1:=mz (x :: r) acc k hk
    have h2:=hlen (x :: r) acc
    simp only [List.getD] at h1
    rw [List.getElem?_eq_getElem (by omega),List.getElem?_eq_getElem hk] at h1 ⊢
    simpa using h1
   rw [if_neg hk,List.getElem?_eq_none (by omega)]
  rw [Nat.add_zero,e]
  simp only [gh]
  rw [mz r _ acc.length (by simp)]
  simp [List.getD]
 | x :: r,acc,j + 1,o,h=>by
  simp only [gh]
  have:=kg r (acc++[mH acc x.after.toList]) j o (by simpa using h)
  rw [List.length_append,List.length_singleton] at this
  rw [show acc.length + (j + 1)=acc.length + 1 + j by omega]
  exact this
theorem qS {ops:Array Oper} {D:Nat→Prop} (hcl:∀ j o,D j→ops[j]? = some o→∀ e∈o.after.toList,Region.binds .any e=true→D e.on) :
  ∀ (n j:Nat) (o:Oper),j≤n→ops[j]? = some o→(∀ e∈o.after.toList,Region.binds .any e=true→D e.on)→∀ i,((dx ops).getD j 0).testBit i=true→D i:=by
 intro n
 induction n with
 | zero =>
  intro j o hj ho hal i hi
  have:=kg ops.toList [] j o (by simpa using ho)
  rw [List.length_nil,Nat.zero_add] at this
  unfold dx at hi
  rw [this] at hi
  obtain ⟨e,he,hb,h⟩:=j7 hi
  rcases h with rfl | h
  ·exact hal e he hb
  obtain rfl:j=0:=by omega
  simp at h
 | succ n ih =>
  intro j o hj ho hal i hi
  have:=kg ops.toList [] j o (by simpa using ho)
  rw [List.length_nil,Nat.zero_add] at this
  unfold dx at hi
  rw [this] at hi
  obtain ⟨e,he,hb,h⟩:=j7 hi
  rcases h with rfl | h
  ·exact hal e he hb
  have hD:=hal e he hb
  by_cases hlt:e.on < j
  ·have hx:((dx ops).getD e.on 0).testBit i=true:=by
    unfold dx
    simp only [List.getD,List.getElem?_take,hlt,if_true] at h ⊢
    exact h
   cases hoe:ops[e.on]? with
   | none =>
    exfalso
    have hl:(dx ops).getD e.on 0=0:=by
     have hlen:∀ (l:List Oper) (acc:List Nat),(gh l acc).length=acc.length + l.length:=by
      intro l; induction l with
      | nil=>intro acc; simp [gh]
      | cons y r ih=>intro acc; simp only [gh]; rw [ih]; simp; omega
     have h1:ops.size≤e.on:=by simpa using hoe
     have h2:(dx ops).length=ops.size:=by unfold dx; rw [hlen]; simp
     simp [List.getD,List.getElem?_eq_none (show (dx ops).length≤e.on by omega)]
    rw [hl] at hx; simp at hx
   | some o'=>exact ih e.on o' (by omega) hoe (fun e' he' hb'=>hcl e.on o' hD hoe e' he' hb') i hx
  simp only [List.getD,List.getElem?_take,hlt,if_false] at h
  simp at h
end Go.Pv
