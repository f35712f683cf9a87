/-
  Texts of this proof, one behind the other: what each says stands at its head. Conditions: none.
-/
import Derived.Test.YtjlmpmidchddjaaDoorB1
import Derived.ProofKit
import Derived.OpenShut
import Derived.ChangeCalls
import Derived.SizedLaws
set_option linter.all false
namespace Go.Pv
open Go.RowKit
theorem Rel.congr {C:Ctx} {m:Map} {s s2:St} {tmps:Array Value} {w:World} (h:Rel C m s tmps w) (h1:∀ t,s2.get t=s.get t) (h2:s2.H=s.H) (h3:s2.n=s.n):Rel C m s2 tmps w:=by
 refine ⟨by rw [h2]; exact h.laid,h.below,h.base,by rw [h3]; exact h.size,?_,?_,?_,fun t=>?_,by rw [h2]; exact h.mp⟩
 ·rw [h2]; exact h.inj
 ·rw [h2]; exact h.blk
 ·rw [h2]; exact h.fro
 rw [h1,h2]; exact h.slot t
section
variable {P:Program} {ops:Array Oper}
structure Out where
 av:AV
 H:aw
def sD (ops:Array Oper) (out:Nat→Out) (s:St) (D:Nat→Bool):Nat→St
 | 0=>s
 | k + 1=>if D k then ({ sD ops out s D k with H:=if kL (bL ops k).op then (out k).H else (sD ops out s D k).H } : St).put (bL ops k).dst (out k).av else sD ops out s D k
theorem eQ (s:St) (d:Option Nat) (x:AV) (t:Nat):(s.put d x).get t=if d=some t then x else s.get t:=by
 cases d with
 | none=>simp [St.put]
 | some d =>
  by_cases h:d=t
  ·subst h; simp [St.put,St.get,lk]
  simp [St.put,St.get,lk,h,show (d == t)=false by simpa using h]
theorem qQ (out:Nat→Out) (s:St) (D:Nat→Bool):∀ k,(sD ops out s D k).n=s.n
 | 0=>rfl
 | k + 1=>by
  simp only [sD]
  split
  ·rw [St.jZ]; exact qQ out s D k
  exact qQ out s D k
theorem jy (out:Nat→Out) (s:St) (D:Nat→Bool) (k t:Nat):(sD ops out s D (k + 1)).get t=if D k=true∧(bL ops k).dst=some t then (out k).av else (sD ops out s D k).get t:=by
 simp only [sD]
 by_cases h:D k=true
 ·rw [if_pos h,eQ]
  by_cases hd:(bL ops k).dst=some t
  ·have hr:D k=true∧(bL ops k).dst=some t:=⟨h,hd⟩
   rw [if_pos hd,if_pos hr]
  have hr:¬ (D k=true∧(bL ops k).dst=some t):=fun hh=>hd hh.2
  rw [if_neg hd,if_neg hr]; rfl
 have hr:¬ (D k=true∧(bL ops k).dst=some t):=fun hh=>h hh.1
 rw [if_neg h,if_neg hr]
theorem tp (out:Nat→Out) (s:St) (D:Nat→Bool) (k:Nat):(sD ops out s D (k + 1)).H=if D k=true∧kL (bL ops k).op=true then (out k).H else (sD ops out s D k).H:=by
 simp only [sD]
 by_cases h:D k=true
 ·rw [if_pos h,St.fQ]
  by_cases hd:kL (bL ops k).op=true
  ·have hr:D k=true∧kL (bL ops k).op=true:=⟨h,hd⟩
   rw [if_pos hr]; simp only [hd,if_true]
  have hr:¬ (D k=true∧kL (bL ops k).op=true):=fun hh=>hd hh.2
  rw [if_neg hr]; simp only [hd,Bool.false_eq_true,if_false]
 have hr:¬ (D k=true∧kL (bL ops k).op=true):=fun hh=>h hh.1
 rw [if_neg h,if_neg hr]
theorem mT (out : Nat → Out) (s : St) (D : Nat → Bool) (t : Nat) : ∀ k n, k ≤ n → (∀ i, k ≤ i → i < n → D i = true → (bL ops i).dst ≠ some t) → (sD ops out s D n).get t = (sD ops out s D k).get t := by
  intro k n hkn h
  induction n with
  | zero => obtain rfl : k = 0 := by omega
            rfl
  | succ n ih =>
    by_cases hk : k = n + 1
    · rw [hk]
    · rw [jy, if_neg (fun hh => h n (by omega) (by omega) hh.1 hh.2)]
      exact ih (by omega) fun i h1 h2 => h i h1 (by omega)
theorem pZ (out : Nat → Out) (s : St) (D : Nat → Bool) : ∀ k n, k ≤ n → (∀ i, k ≤ i → i < n → D i = true → kL (bL ops i).op = false) → (sD ops out s D n).H = (sD ops out s D k).H := by
  intro k n hkn h
  induction n with
  | zero => obtain rfl : k = 0 := by omega
            rfl
  | succ n ih =>
    by_cases hk : k = n + 1
    · rw [hk]
    · rw [tp, if_neg (fun hh => by have := h n (by omega) (by omega) hh.1; rw [this] at hh; simp at hh)]
      exact ih (by omega) fun i h1 h2 => h i h1 (by omega)
theorem iW (out:Nat→Out) (s:St) (D D' : Nat→Bool) (t:Nat):∀ k,(∀ i,i < k→(bL ops i).dst=some t→D i=D' i)→(sD ops out s D k).get t=(sD ops out s D' k).get t:=by
 intro k h
 induction k with
 | zero=>rfl
 | succ k ih =>
  rw [jy,jy,ih fun i hi=>h i (by omega)]
  by_cases hd:(bL ops k).dst=some t
  ·rw [h k (by omega) hd]
  rw [if_neg (fun hh=>hd hh.2),if_neg (fun hh=>hd hh.2)]
theorem lT (out:Nat→Out) (s:St) (D D' : Nat→Bool):∀ k,(∀ i,i < k→kL (bL ops i).op=true→D i=D' i)→(sD ops out s D k).H=(sD ops out s D' k).H:=by
 intro k h
 induction k with
 | zero=>rfl
 | succ k ih =>
  rw [tp,tp,ih fun i hi=>h i (by omega)]
  by_cases hd:kL (bL ops k).op=true
  ·rw [h k (by omega) hd]
  rw [if_neg (fun hh=>hd hh.2),if_neg (fun hh=>hd hh.2)]
structure Fact (P:Program) (ops:Array Oper) (out:Nat→Out) (s:St) (j:Nat) (o:Oper):Prop where
 dst:∀ t,o.dst=some t→t < s.n
 how:(bw ops (sD ops out s (fun _=>true) j) o=some false∧(out j).av = .p (.tup [])∧kL o.op=false) ∨
  (bw ops (sD ops out s (fun _=>true) j) o=some true∧B2 P o (sD ops out s (fun _=>true) j) (out j).av (out j).H)
theorem nv.facts:∀ (l:List Oper) (k:Nat) (pre:Nat→Out) (s s1 s' : St),(∀ i,l[i]? = ops[k + i]?)→k + l.length=ops.size→(∀ t,s1.get t=(sD ops pre s (fun _=>true) k).get t)→s1.H=(sD ops pre s (fun _=>true) k).H→s1.n=s.n →
  (∀ o∈l,o.guard ≠ none→kL o.op=false) →
  nv P true ops l s1 s'→∃ out:Nat→Out,(∀ i,i < k→out i=pre i)∧(∀ i o,k≤i→ops[i]? = some o→Fact P ops out s i o)∧(∀ t,s'.get t=(sD ops out s (fun _=>true) ops.size).get t)∧s'.H=(sD ops out s (fun _=>true) ops.size).H∧s'.n=s.n
 | [],k,pre,s,s1,s',hl,hk,hg,hH,hn,_,hr=>by
  cases hr
  simp at hk
  subst hk
  refine ⟨pre,fun _ _=>rfl,fun i o hi ho=>?_,hg,hH,hn⟩
  have:=(Array.getElem?_eq_some_iff.1 ho).1
  omega
 | o :: r,k,pre,s,s1,s',hl,hk,hg,hH,hn,hgw,hr=>by
  have ho:ops[k]? = some o:=by have:=hl 0; simpa using this.symm
  have hod:bL ops k=o:=eN ho
  have sDpre:∀ (x:Out) (j:Nat),j≤k→sD ops (fun i=>if i=k then x else pre i) s (fun _=>true) j=sD ops pre s (fun _=>true) j:=by
   intro x j hj
   induction j with
   | zero=>rfl
   | succ j ih =>
    simp only [sD]
    rw [ih (by omega),if_neg (by omega:¬ j=k)]
  have hgs:∀ b,bw ops s1 o=some b→bw ops (sD ops pre s (fun _=>true) k) o=some b:=by
   intro b h
   unfold bw at h ⊢
   simp only [hg] at h
   exact h
  cases hr with
  | cons h hr =>
   have next:∀ (x:Out) (sn:St),(∀ t,sn.get t=if o.dst=some t then x.av else s1.get t)→(sn.H=if kL o.op=true then x.H else s1.H)→sn.n=s1.n→nv P true ops r sn s' →
     Fact P ops (fun i=>if i=k then x else pre i) s k o →
     ∃ out:Nat→Out,(∀ i,i < k→out i=pre i)∧(∀ i o,k≤i→ops[i]? = some o→Fact P ops out s i o)∧(∀ t,s'.get t=(sD ops out s (fun _=>true) ops.size).get t)∧s'.H=(sD ops out s (fun _=>true) ops.size).H∧s'.n=s.n:=by
    intro x sn h1 h2 h3 hrn hf
    obtain ⟨out,g1,g2,g3⟩:=nv.facts r (k + 1) (fun i=>if i=k then x else pre i) s sn s' (fun i=>by have:=hl (i + 1); simp only [List.getElem?_cons_succ] at this; rw [this]; congr 1; omega) (by simp at hk; omega)
     (fun t=>by rw [h1,jy,hod,sDpre x k (Nat.le_refl _),hg]; simp) (by rw [h2,tp,hod,sDpre x k (Nat.le_refl _),hH]; simp) (by rw [h3,hn]) (fun o ho=>hgw o (by simp [ho])) hrn
    refine ⟨out,fun i hi=>?_,fun i o' hi ho'=>?_,g3⟩
    ·rw [g1 i (by omega),if_neg (by omega)]
    by_cases hik:i=k
    ·subst hik
     rw [ho] at ho'; cases ho'
     have e1:∀ j,j≤i→sD ops out s (fun _=>true) j=sD ops (fun i'=>if i' = i then x else pre i') s (fun _=>true) j:=by
      intro j hj
      induction j with
      | zero=>rfl
      | succ j ih=>simp only [sD]; rw [ih (by omega),g1 j (by omega)]
     have e2:out i=(fun i'=>if i' = i then x else pre i') i:=g1 i (by omega)
     refine ⟨hf.dst,?_⟩
     have:=hf.how
     rw [e1 i (Nat.le_refl _),e2]
     exact this
    exact g2 i o' (by omega) ho'
   cases h with
   | skip hgd hd =>
    have hgn:o.guard ≠ none:=by
     intro e
     unfold bw at hgd
     rw [e] at hgd
     simp at hgd
    have hw:=hgw o (by simp) hgn
    refine next ⟨.p (.tup []),s1.H⟩ _ (fun t=>eQ _ _ _ _) (by rw [St.fQ]; simp) (St.jZ _ _ _) hr ⟨fun t ht=>by rw [← hn]; exact hd t ht,.inl ⟨?_,by simp,hw⟩⟩
    rw [sDpre _ k (Nat.le_refl _)]
    exact hgs false hgd
   | op av H' hgd hd hdo hloc =>
    have hloc:=hloc rfl
    have hag:∀ (s2:St),(∀ t,s2.get t=(sD ops pre s (fun _=>true) k).get t)→∀ x,s2.ev x=s1.ev x:=by
     intro s2 h2 x
     cases x<;>simp only [St.ev]
     rw [h2,hg]
    refine next ⟨av,H'⟩ (({ s1 with H:=H' } : St).put o.dst av) (fun t=>by rw [eQ]; rfl) (by
      rw [St.fQ]
      by_cases hw:kL o.op=true
      ·rw [if_pos hw]
      rw [if_neg hw]; exact hloc.calm (by simpa using hw)) (St.jZ _ _ _) hr ⟨fun t ht=>by rw [← hn]; exact hd t ht,.inr ⟨?_,?_⟩⟩
    ·rw [sDpre _ k (Nat.le_refl _)]; exact hgs true hgd
    rw [sDpre _ k (Nat.le_refl _)]
    simp only [if_true]
    have hev:∀ x,(sD ops pre s (fun _=>true) k).ev x=s1.ev x:=hag _ fun _=>rfl
    have hnn:(sD ops pre s (fun _=>true) k).n=s1.n:=by rw [qQ,hn]
    refine ⟨fun s2 h1 h2 h3=>hloc.here s2 (h1.trans hnn) (fun x hx=>(h2 x hx).trans (hev x)) (h3.trans hH.symm),fun hf=>?_,fun hw=>by rw [← hH]; exact hloc.calm hw⟩
    obtain ⟨e1,e2⟩:=hloc.free hf
    exact ⟨by rw [← hH]; exact e1,fun s2 h1 h2=>e2 s2 (h1.trans hnn) (fun x hx=>(h2 x hx).trans (hev x))⟩
theorem vL {o:Op} (h:kL o=true):jF o=true:=by
 unfold kL at h
 split at h<;>first|rfl|cases h
theorem rZ (h:ry ops=true):(∀ j o,ops[j]? = some o→∀ e∈o.after.toList,Region.binds .any e=true→e.on < j) ∧
  ∀ i j oi oj,i < j→ops[i]? = some oi→ops[j]? = some oj→gk ops oi oj=false→((dx ops).getD j 0).testBit i=true:=by
 unfold ry at h
 rw [List.all_eq_true] at h
 constructor
 ·intro j o ho e he hb
  have hj:=(Array.getElem?_eq_some_iff.1 ho).1
  have:=h j (by simpa using hj)
  rw [Bool.and_eq_true] at this
  have h1:=(List.all_eq_true.1 this.1) e (by rw [eN ho]; exact he)
  rw [hb] at h1
  simpa using h1
 intro i j oi oj hij hi hj ha
 have hj':=(Array.getElem?_eq_some_iff.1 hj).1
 have:=h j (by simpa using hj')
 rw [Bool.and_eq_true] at this
 have h1:=(List.all_eq_true.1 this.2) i (by simpa using hij)
 rw [eN hi,eN hj,ha,Bool.false_or] at h1
 exact h1
theorem uU {Q:Exit→Act→World→Prop} {C:Ctx} {ds:List Deferred} {s s' : St} (hok:ry ops=true) (hgw:∀ o∈ops.toList,o.guard ≠ none→kL o.op=false) (hrun:nv P true ops ops.toList s s') {m:Map} {a:Act} {w:World} (R:Rel C m s a.tmps w) (hd:a.defers=ds)
  (hQ:∀ m' (a' : Act) w',Rel C m' s' a'.tmps w'→a'.defers=ds→Q .normal a' w'):nt P .any ops Q ops.size (Array.replicate ops.size false) a w:=by
 obtain ⟨hedge,hconf⟩:=rZ hok
 obtain ⟨out,_,hfact,hget',hH',hn'⟩:=nv.facts (ops:=ops) ops.toList 0 (fun _=>⟨.dead,[]⟩) s s s' (fun i=>by simp) (by simp) (fun _=>rfl) rfl rfl hgw hrun
 have hfact:∀ i o,ops[i]? = some o→Fact P ops out s i o:=fun i o=>hfact i o (Nat.zero_le _)
 have key:∀ (fuel:Nat) (listed:Array Bool) (m:Map) (a:Act) (w:World),listed.size=ops.size→(List.range ops.size).countP (fun i=>!listed.getD i true)=fuel →
   (∀ j o,listed.getD j false=true→ops[j]? = some o→∀ e∈o.after.toList,Region.binds .any e=true→listed.getD e.on false=true) →
   Rel C m (sD ops out s (fun i=>listed.getD i false) ops.size) a.tmps w→a.defers=ds→nt P .any ops Q fuel listed a w:=by
  intro fuel
  induction fuel with
  | zero =>
   intro listed m a w hsz hcnt hcl R hd
   have hall:∀ i,i < ops.size→listed.getD i true=true:=by
    intro i hi
    have:=List.countP_eq_zero.1 hcnt i (by simpa using hi)
    simpa using this
   refine ⟨?_,hQ m a w (R.congr (fun t=>?_) ?_ ?_) hd⟩
   ·unfold Region.ready
    rw [List.filter_eq_nil_iff]
    intro i hi
    have:=hall i (by simpa using hi)
    simp [this]
   ·rw [hget']
    refine (iW out s _ _ t _ fun i hi _=>?_).symm
    have:=hall i hi
    simp [Array.getD_eq_getD_getElem?,Array.getElem?_eq_getElem (show i < listed.size by omega)] at this ⊢
    exact this
   ·rw [hH']
    refine (lT out s _ _ _ fun i hi _=>?_).symm
    have:=hall i hi
    simp [Array.getD_eq_getD_getElem?,Array.getElem?_eq_getElem (show i < listed.size by omega)] at this ⊢
    exact this
   rw [qQ,hn']
  | succ fuel ih =>
   intro listed m a w hsz hcnt hcl R hd
   refine ⟨fun hnil=>?_,fun j hj=>?_⟩
   ·
    exfalso
    have hex:∃ i,i < ops.size∧listed.getD i true=false:=by
     have:0 < (List.range ops.size).countP (fun i=>!listed.getD i true):=by omega
     obtain ⟨i,hi,h⟩:=List.countP_pos_iff.1 this
     exact ⟨i,by simpa using hi,by simpa using h⟩
    have hmin:∃ i,i < ops.size∧listed.getD i true=false∧∀ k,k < i→listed.getD k true=true:=by
     obtain ⟨i,hi,h⟩:=hex
     induction i using Nat.strongRecOn with
     | _ i ihh =>
      by_cases hall:∀ k,k < i→listed.getD k true=true
      ·exact ⟨i,hi,h,hall⟩
      simp only [Classical.not_forall] at hall
      obtain ⟨k,hk,hkn⟩:=hall
      exact ihh k hk (by omega) (by simpa using hkn)
    obtain ⟨i,hi,hli,hbelow⟩:=hmin
    have hmem:i∈Region.ready .any ops listed:=by
     unfold Region.ready
     rw [List.mem_filter]
     refine ⟨by simpa using hi,?_⟩
     rw [hli,Array.getElem?_eq_getElem hi]
     simp only [Bool.not_false,Bool.true_and,Option.map_some,Option.getD_some]
     rw [Array.all_eq_true_iff_forall_mem]
     intro e he
     by_cases hb:Region.binds .any e=true
     ·have hlt:=hedge i ops[i] (Array.getElem?_eq_getElem hi) e (by simpa using he) hb
      have:=hbelow e.on hlt
      have hlt' : e.on < listed.size:=by omega
      simp [Array.getD_eq_getD_getElem?,Array.getElem?_eq_getElem hlt'] at this ⊢
      simp [this]
     simp [hb]
    rw [hnil] at hmem
    simp at hmem
   unfold Region.ready at hj
   rw [List.mem_filter] at hj
   obtain ⟨hjlt,hj⟩:=hj
   have hjlt:j < ops.size:=by simpa using hjlt
   have hoj:ops[j]? = some ops[j]:=Array.getElem?_eq_getElem hjlt
   generalize ops[j]=o at hoj
   rw [hoj] at hj
   simp only [Option.map_some,Option.getD_some,Bool.and_eq_true,Bool.not_eq_eq_eq_not,Bool.not_true] at hj
   obtain ⟨hnl,hal⟩:=hj
   have hjls:j < listed.size:=by omega
   have hnl' : listed.getD j false=false:=by
    simp [Array.getD_eq_getD_getElem?,Array.getElem?_eq_getElem hjls] at hnl ⊢
    exact hnl
   have hpre:∀ e∈o.after.toList,Region.binds .any e=true→listed.getD e.on false=true:=by
    intro e he hb
    have:=(Array.all_eq_true_iff_forall_mem.1 hal) e (by simpa using he)
    rw [hb] at this
    simpa using this
   have hanc:∀ i,((dx ops).getD j 0).testBit i=true→listed.getD i false=true:=
    qS (D:=fun i=>listed.getD i false=true) hcl j j o (Nat.le_refl _) hoj hpre
   have hanc' : ∀ i,listed.getD i false=true→∀ oi,ops[i]? = some oi→∀ k,((dx ops).getD i 0).testBit k=true→listed.getD k false=true:=
    fun i hi oi hoi=>qS (D:=fun i=>listed.getD i false=true) hcl i i oi (Nat.le_refl _) hoi (hcl i oi hi hoi)
   have hod:bL ops j=o:=eN hoj
   have low:∀ i,i < j→gk ops (bL ops i) o=false→listed.getD i false=true:=by
    intro i hi ha
    have hoi:ops[i]? = some ops[i]:=Array.getElem?_eq_getElem (by omega)
    refine hanc i (hconf i j ops[i] o hi hoi hoj ?_)
    rwa [eN hoi] at ha
   have high:∀ i,j < i→i < ops.size→listed.getD i false=true→gk ops o (bL ops i)=true:=by
    intro i hi hlt hli
    have hoi:ops[i]? = some ops[i]:=Array.getElem?_eq_getElem hlt
    have e:bL ops i=ops[i]:=eN hoi
    rw [e]
    by_cases ha:gk ops o ops[i]=true
    ·exact ha
    have:=hanc' i hli ops[i] hoi j (hconf j i o ops[i] hi hoj hoi (by simpa using ha))
    rw [this] at hnl'; cases hnl'
   have agree:∀ t,t∈o.looksAt ops→(sD ops out s (fun i=>listed.getD i false) ops.size).get t=(sD ops out s (fun _=>true) j).get t:=by
    intro t ht
    rw [mT out s _ t j ops.size (by omega) (fun i h1 h2 h3 h4=>?_)]
    ·refine iW out s _ _ t j fun i hi hdi=>?_
     rw [low i hi ?_]
     rw [Bool.eq_false_iff]
     intro hap
     unfold gk at hap
     rw [Bool.and_eq_true,Bool.and_eq_true] at hap
     exact (Oper.apart_spec hap.1.1).1 t hdi ht
    by_cases hij:i=j
    ·subst hij; rw [hnl'] at h3; cases h3
    have hap:=high i (by omega) h2 h3
    unfold gk at hap
    rw [Bool.and_eq_true,Bool.and_eq_true] at hap
    exact (Oper.apart_spec hap.1.1).2.2 t h4 ht
   have agreeH:jF o.op=true→(sD ops out s (fun i=>listed.getD i false) ops.size).H=(sD ops out s (fun _=>true) j).H:=by
    intro hT
    rw [pZ out s _ j ops.size (by omega) (fun i h1 h2 h3=>?_)]
    ·refine lT out s _ _ j fun i hi hwi=>?_
     rw [low i hi ?_]
     rw [Bool.eq_false_iff]
     intro hap
     unfold gk at hap
     simp [hwi,hT] at hap
    by_cases hij:i=j
    ·subst hij; rw [hnl'] at h3; cases h3
    have hap:=high i (by omega) h2 h3
    unfold gk at hap
    simp only [hT,Bool.true_and,Bool.and_eq_true,Bool.not_eq_eq_eq_not,Bool.not_true] at hap
    exact hap.2
   have hlist:∀ i,(listed.setIfInBounds j true).getD i false=if i=j then true else listed.getD i false:=by
    intro i
    simp only [Array.getD_eq_getD_getElem?]
    by_cases hij:i=j
    ·subst hij; rw [Array.getElem?_setIfInBounds_self_of_lt hjls,if_pos rfl]; rfl
    rw [Array.getElem?_setIfInBounds_ne (Ne.symm hij),if_neg hij]
   have insertGet:∀ t,(sD ops out s (fun i=>(listed.setIfInBounds j true).getD i false) ops.size).get t=if o.dst=some t then (out j).av else (sD ops out s (fun i=>listed.getD i false) ops.size).get t:=by
    intro t
    have base:∀ k,k≤j→(sD ops out s (fun i=>(listed.setIfInBounds j true).getD i false) k).get t=(sD ops out s (fun i=>listed.getD i false) k).get t:=fun k hk =>
     iW out s _ _ t k fun i hi _=>by rw [hlist,if_neg (by omega)]
    have step:∀ n,j + 1≤n→n≤ops.size→(sD ops out s (fun i=>(listed.setIfInBounds j true).getD i false) n).get t=if o.dst=some t then (out j).av else (sD ops out s (fun i=>listed.getD i false) n).get t:=by
     intro n hn hns
     induction n with
     | zero=>omega
     | succ n ihn =>
      by_cases hnj:n=j
      ·subst hnj
       rw [jy,jy,hod,base n (Nat.le_refl _),hlist,if_pos rfl,hnl']
       by_cases hdt:o.dst=some t
       ·simp [hdt]
       simp [hdt]
      rw [jy,jy,ihn (by omega) (by omega),hlist,if_neg hnj]
      by_cases hln:listed.getD n false=true∧(bL ops n).dst=some t
      ·rw [if_pos hln,if_pos hln]
       have hap:=high n (by omega) (by omega) hln.1
       unfold gk at hap
       rw [Bool.and_eq_true,Bool.and_eq_true] at hap
       by_cases hdt:o.dst=some t
       ·exact absurd hln.2 ((Oper.apart_spec hap.1.1).2.1 t hdt)
       rw [if_neg hdt]
      rw [if_neg hln,if_neg hln]
    exact step ops.size (by omega) (Nat.le_refl _)
   have insertH:(sD ops out s (fun i=>(listed.setIfInBounds j true).getD i false) ops.size).H=if kL o.op=true then (out j).H else (sD ops out s (fun i=>listed.getD i false) ops.size).H:=by
    have base:∀ k,k≤j→(sD ops out s (fun i=>(listed.setIfInBounds j true).getD i false) k).H=(sD ops out s (fun i=>listed.getD i false) k).H:=fun k hk =>
     lT out s _ _ k fun i hi _=>by rw [hlist,if_neg (by omega)]
    have step:∀ n,j + 1≤n→n≤ops.size→(sD ops out s (fun i=>(listed.setIfInBounds j true).getD i false) n).H=if kL o.op=true then (out j).H else (sD ops out s (fun i=>listed.getD i false) n).H:=by
     intro n hn hns
     induction n with
     | zero=>omega
     | succ n ihn =>
      by_cases hnj:n=j
      ·subst hnj
       rw [tp,tp,hod,base n (Nat.le_refl _),hlist,if_pos rfl,hnl']
       by_cases hdt:kL o.op=true
       ·simp [hdt]
       simp [hdt]
      rw [tp,tp,ihn (by omega) (by omega),hlist,if_neg hnj]
      by_cases hln:listed.getD n false=true∧kL (bL ops n).op=true
      ·rw [if_pos hln,if_pos hln]
       have hap:=high n (by omega) (by omega) hln.1
       unfold gk at hap
       by_cases hdt:kL o.op=true
       ·simp [hdt,vL hln.2] at hap
       rw [if_neg hdt]
      rw [if_neg hln,if_neg hln]
    exact step ops.size (by omega) (Nat.le_refl _)
   have hcnt' : (List.range ops.size).countP (fun i=>!(listed.setIfInBounds j true).getD i true)=fuel:=by
    have hsplit:∀ (l:List Nat),l.Nodup→j∈l→l.countP (fun i=>!listed.getD i true)=l.countP (fun i=>!(listed.setIfInBounds j true).getD i true) + 1:=by
     intro l
     induction l with
     | nil=>intro _ h; simp at h
     | cons x r ihl =>
      intro hnd hmem
      have hx:∀ i,i ≠ j→(listed.setIfInBounds j true).getD i true=listed.getD i true:=by
       intro i hi
       simp only [Array.getD_eq_getD_getElem?]
       rw [Array.getElem?_setIfInBounds_ne (Ne.symm hi)]
      rw [List.nodup_cons] at hnd
      by_cases hxj:x=j
      ·subst hxj
       have e1:(listed.setIfInBounds x true).getD x true=true:=by
        simp only [Array.getD_eq_getD_getElem?]
        rw [Array.getElem?_setIfInBounds_self_of_lt hjls]; rfl
       rw [List.countP_cons,List.countP_cons,hnl,e1]
       have:r.countP (fun i=>!listed.getD i true)=r.countP (fun i=>!(listed.setIfInBounds x true).getD i true):=by
        apply List.countP_congr
        intro i hi
        rw [hx i (fun e=>hnd.1 (e ▸ hi))]
       simp only [this,Bool.not_false,Bool.not_true,if_true,Bool.false_eq_true,if_false,Nat.add_zero]
      rw [List.countP_cons,List.countP_cons,hx x hxj,ihl hnd.2 (by rcases List.mem_cons.1 hmem with h | h; exact absurd h.symm hxj; exact h)]
      omega
    have:=hsplit (List.range ops.size) List.nodup_range (by simpa using hjlt)
    omega
   have hcl' : ∀ i oi,(listed.setIfInBounds j true).getD i false=true→ops[i]? = some oi→∀ e∈oi.after.toList,Region.binds .any e=true→(listed.setIfInBounds j true).getD e.on false=true:=by
    intro i oi hi hoi e he hb
    rw [hlist] at hi ⊢
    by_cases hij:i=j
    ·subst hij
     rw [hoj] at hoi; cases hoi
     rw [hpre e he hb]; simp
    rw [if_neg hij] at hi
    rw [hcl i oi hi hoi e he hb]; simp
   have next:∀ (m' : Map) (a' : Act) (w' : World),(∃ s2:St,Rel C m' s2 a'.tmps w'∧(∀ t,s2.get t=if o.dst=some t then (out j).av else (sD ops out s (fun i=>listed.getD i false) ops.size).get t) ∧
      (s2.H=if kL o.op=true then (out j).H else (sD ops out s (fun i=>listed.getD i false) ops.size).H)∧s2.n=s.n)→a'.defers=ds→nt P .any ops Q fuel (listed.setIfInBounds j true) a' w':=by
    rintro m' a' w' ⟨s2,R2,e1,e2,e3⟩ hd'
    refine ih _ m' a' w' (by simpa using hsz) hcnt' hcl' (R2.congr (fun t=>?_) ?_ ?_) hd'
    ·rw [insertGet,e1]
    ·rw [insertH,e2]
    rw [qQ,e3]
   have hgd:∀ b,bw ops (sD ops out s (fun _=>true) j) o=some b→bw ops (sD ops out s (fun i=>listed.getD i false) ops.size) o=some b:=by
    intro b h
    unfold bw at h ⊢
    split at h
    ·exact h
    rename_i g want e
    split at h
    ·rename_i d hdd
     have:(sD ops out s (fun i=>listed.getD i false) ops.size).get d=(sD ops out s (fun _=>true) j).get d:=agree d (by
      unfold Oper.looksAt
      rw [e]
      simp [hdd])
     rw [this]
     exact h
    cases h
   have hsn:(sD ops out s (fun i=>listed.getD i false) ops.size).n=s.n:=qQ _ _ _ _
   obtain ⟨fd,fh⟩:=hfact j o hoj
   unfold Hk
   rw [hoj]
   simp only
   rcases fh with ⟨hg,hdead,hw⟩ | ⟨hg,hloc⟩
   ·rw [cX (P:=P) R (hgd _ hg)]
    simp only [Bool.false_eq_true,if_false]
    refine next m _ w ⟨_,R.put (fun t ht=>by rw [hsn]; exact fd t ht) (.p _ _ pn),fun t=>?_,?_,?_⟩ (by rw [put_defers]; exact hd)
    ·rw [eQ,hdead]
    ·rw [St.fQ,hw]; simp
    rw [St.jZ,hsn]
   rw [cX (P:=P) R (hgd _ hg)]
   simp only [if_true]
   left
   have hag:fx o (sD ops out s (fun _=>true) j) (sD ops out s (fun i=>listed.getD i false) ops.size):=by
    intro x hx
    cases x with
    | tmp t =>
     simp only [St.ev]
     refine agree t ?_
     unfold Oper.looksAt
     rw [List.mem_append]
     left
     rw [List.mem_filterMap]
     exact ⟨.tmp t,by simpa using hx,rfl⟩
    | _=>rfl
   have hn2:(sD ops out s (fun i=>listed.getD i false) ops.size).n=(sD ops out s (fun _=>true) j).n:=by rw [qQ,qQ]
   by_cases hT:jF o.op=true
   ·refine hloc.here _ hn2 hag (agreeH hT) C m a w _ Q R fun v m' w' R' hv=>?_
    refine next m' _ w' ⟨_,R'.put (fun t ht=>by simp only; rw [hsn]; exact fd t ht) hv,fun t=>?_,?_,?_⟩ (by rw [put_defers]; exact hd)
    ·rw [eQ]; rfl
    ·rw [St.fQ]
     by_cases hw:kL o.op=true
     ·rw [if_pos hw]
     rw [if_neg hw,agreeH hT]; exact hloc.calm (by simpa using hw)
    rw [St.jZ]; exact hsn
   obtain ⟨e1,e2⟩:=hloc.free (by simpa using hT)
   refine e2 _ hn2 hag C m a w _ Q R fun v m' w' R' hv=>?_
   have hw:kL o.op=false:=by
    rw [Bool.eq_false_iff]
    exact fun hw=>hT (vL hw)
   refine next m' _ w' ⟨_,R'.put (fun t ht=>by simp only; rw [hsn]; exact fd t ht) hv,fun t=>?_,?_,?_⟩ (by rw [put_defers]; exact hd)
   ·rw [eQ]
   ·rw [St.fQ,hw]; simp
   rw [St.jZ]; exact hsn
 refine key ops.size (Array.replicate ops.size false) m a w (by simp) ?_ ?_ ?_ hd
 ·have:∀ i∈List.range ops.size,(!(Array.replicate ops.size false).getD i true)=true:=by
   intro i hi
   have hi:i < ops.size:=by simpa using hi
   simp [Array.getD_eq_getD_getElem?,hi]
  rw [List.countP_eq_length.2 this]
  simp
 ·intro j o hj
  exfalso
  simp only [Array.getD_eq_getD_getElem?,Array.getElem?_replicate] at hj
  split at hj<;>simp at hj
 refine R.congr (fun t=>?_) ?_ (qQ _ _ _ _)
 ·refine mT out s _ t 0 ops.size (Nat.zero_le _) fun i _ hi h=>?_
  simp only [Array.getD_eq_getD_getElem?,Array.getElem?_replicate] at h
  split at h<;>simp at h
 refine pZ out s _ 0 ops.size (Nat.zero_le _) fun i _ hi h=>?_
 simp only [Array.getD_eq_getD_getElem?,Array.getElem?_replicate] at h
 split at h<;>simp at h
end
open Go.RowKit
section
variable {P:Program} {T:TypeId→Option TI}
theorem Em {op:BinOp} {t:TypeId} {H:aw} {x y:AV} {r:OV} (h:dZ T op t H x y=some r):r.H=H∧∀ H2,dZ T op t H2 x y=some { r with H:=H2 }:=by
 unfold dZ at h ⊢
 split at h<;>(try split at h)<;>simp only [Option.some.injEq,reduceCtorEq] at h<;>subst h<;>exact ⟨rfl,fun _=>rfl⟩
theorem zy {ti:TI} {H:aw} {x y:AV} {r:OV} (h:kb ti H x y=some r):r.H=H∧∀ H2,kb ti H2 x y=some { r with H:=H2 }:=by
 unfold kb at h ⊢
 split at h
 ·split at h
  ·rename_i hk
   split at h<;>simp only [Option.some.injEq,reduceCtorEq] at h
   subst h
   refine ⟨rfl,fun H2=>?_⟩
   simp [hk]
  cases h
 cases h
theorem EW {H:aw} {x:AV} {r:OV} (h:sf H x=some r):r.H=H∧∀ H2,sf H2 x=some { r with H:=H2 }:=by
 unfold sf at h ⊢
 split at h<;>simp only [Option.some.injEq,reduceCtorEq] at h<;>subst h<;>exact ⟨rfl,fun _=>rfl⟩
theorem Gj {op:UnOp} {H:aw} {x:AV} {r:OV} (h:yb op H x=some r):r.H=H∧∀ H2,yb op H2 x=some { r with H:=H2 }:=by
 unfold yb at h ⊢
 split at h<;>(try split at h)<;>simp only [Option.some.injEq,reduceCtorEq] at h<;>subst h<;>exact ⟨rfl,fun _=>rfl⟩
theorem BL {H:aw} {a b x:AV} {r:OV} (h:lr a b H x=some r):r.H=H∧∀ H2,lr a b H2 x=some { r with H:=H2 }:=by
 unfold lr at h ⊢
 split at h<;>simp only [Option.some.injEq,reduceCtorEq] at h<;>subst h<;>exact ⟨rfl,fun _=>rfl⟩
theorem CR {src dst:TypeId} {H:aw} {x:AV} {r:OV} (h:mD T src dst H x=some r):r.H=H∧∀ H2,mD T src dst H2 x=some { r with H:=H2 }:=by
 unfold mD at h ⊢
 split at h<;>(try split at h)<;>simp only [Option.some.injEq,reduceCtorEq] at h<;>subst h<;>exact ⟨rfl,fun _=>by simp_all⟩
theorem qA {ti:TI} {f:Nat} {H:aw} {x:AV} {r:OV} (h:dV ti f H x=some r):r.H=H∧∀ H2,dV ti f H2 x=some { r with H:=H2 }:=by
 unfold dV at h ⊢
 split at h<;>(try split at h)<;>(try split at h)<;>simp only [Option.some.injEq,reduceCtorEq] at h<;>subst h<;>exact ⟨rfl,fun _=>by simp_all⟩
theorem yy {ti:TI} {f:Nat} {H:aw} {x:AV} {r:OV} (h:kE T ti f H x=some r):r.H=H∧∀ H2,kE T ti f H2 x=some { r with H:=H2 }:=by
 unfold kE at h ⊢
 split at h
 ·split at h
  ·split at h
   ·rename_i tf htf
    cases hr:da tf.kind<;>rw [hr] at h<;>simp only [cond_true,cond_false,Option.some.injEq] at h<;>subst h<;>exact ⟨rfl,fun _=>by simp_all⟩
   cases h
  cases h
 cases h
theorem rv {ti:TI} {H:aw} {x y:AV} {r:OV} (h:du T ti H x y=some r):r.H=H∧∀ H2,du T ti H2 x y=some { r with H:=H2 }:=by
 unfold du at h ⊢
 split at h<;>(try split at h)<;>(try split at h)<;>(try split at h)<;>simp only [Option.some.injEq,reduceCtorEq] at h<;>subst h<;>exact ⟨rfl,fun _=>by simp_all⟩
theorem zP {ti:TI} {H:aw} {x:AV} {lo hi:Option AV} {r:OV} (h:ky T ti H x lo hi=some r):r.H=H∧∀ H2,ky T ti H2 x lo hi=some { r with H:=H2 }:=by
 unfold ky at h ⊢
 split at h<;>(try split at h)<;>(try split at h)<;>(try split at h)<;>simp only [Option.some.injEq,reduceCtorEq] at h<;>subst h<;>exact ⟨rfl,fun _=>by simp_all⟩
theorem uQ {i:Nat} {H:aw} {x:AV} {r:OV} (h:er i H x=some r):r.H=H∧∀ H2,er i H2 x=some { r with H:=H2 }:=by
 unfold er at h ⊢
 split at h<;>simp only [Option.some.injEq,reduceCtorEq] at h<;>subst h<;>exact ⟨rfl,fun _=>rfl⟩
theorem EZ {ti:TI} {H:aw} {x:AV} {r:OV} (h:tC ti H x=some r):r.H=H∧∀ H2,tC ti H2 x=some { r with H:=H2 }:=by
 unfold tC at h ⊢
 split at h<;>(try split at h)<;>simp only [Option.some.injEq,reduceCtorEq] at h<;>subst h<;>exact ⟨rfl,fun _=>by simp_all⟩
theorem pY {f:Int→Int→Int} {H:aw} {l:List AV} {r:OV} (h:fA f H l=some r):r.H=H∧∀ H2,fA f H2 l=some { r with H:=H2 }:=by
 unfold fA at h ⊢
 split at h<;>simp only [Option.some.injEq,reduceCtorEq] at h<;>subst h<;>exact ⟨rfl,fun _=>rfl⟩
theorem zl {ti:TI} {H:aw} {l:List (Nat × AV)} {r:OV} (h:kf T ti H l=some r):r.H=H∧∀ H2,kf T ti H2 l=some { r with H:=H2 }:=by
 unfold kf at h ⊢
 split at h<;>(try split at h)<;>(try split at h)<;>simp only [Option.some.injEq,reduceCtorEq] at h<;>subst h<;>exact ⟨rfl,fun _=>by simp_all⟩
theorem pt {ti:TI} {n:Nat} {H:aw} {l:List (Nat × AV)} {r:OV} (h:dt T ti H n l=some r):r.H=H∧∀ H2,dt T ti H2 n l=some { r with H:=H2 }:=by
 unfold dt at h ⊢
 split at h<;>(try split at h)<;>(try split at h)<;>simp only [Option.some.injEq,reduceCtorEq] at h<;>subst h<;>exact ⟨rfl,fun _=>by simp_all⟩
theorem qq {ti:TI} {ok:Bool} {H:aw} {x y:AV} {r:OV} (h:fC T ti ok H x y=some r):r.H=H:=by
 unfold fC at h
 split at h
 ·split at h
  ·split at h
   ·split at h
    ·simp only [Option.some.injEq] at h
     subst h; rfl
    cases h
   cases h
  cases h
 cases h
theorem qB {ti:TI} {H:aw} {x:AV} {r:OV} (h:iN ti H x=some r):r.H=H:=by
 unfold iN at h
 split at h
 ·split at h
  ·cases hr:da ti.kind<;>rw [hr] at h<;>simp only [cond_true,cond_false,Option.some.injEq] at h<;>subst h<;>rfl
  ·cases hr:da ti.kind<;>rw [hr] at h<;>simp only [cond_true,cond_false,Option.some.injEq] at h<;>subst h<;>rfl
  ·cases h
  ·cases h
  ·cases h
  cases h
 ·cases hr:da ti.kind<;>rw [hr] at h<;>simp only [cond_true,cond_false,Option.some.injEq] at h<;>subst h<;>rfl
 cases h
theorem mR {f:FuncId} {H:aw} {l:List AV} {r:OV} (h:eH f H l=some r):r.H=H:=by
 unfold eH at h
 split at h<;>simp only [Option.some.injEq,reduceCtorEq] at h
 subst h; rfl
theorem mi {s s2:St} {op:Op} (h:∀ x∈op.operands,s2.ev x=s.ev x) (hH:s2.H=s.H):bW T s2 op=bW T s op:=by
 have parts:∀ ps:Array (Nat × Operand),(∀ x∈(ps.toList.map (·.2)).toArray,s2.ev x=s.ev x)→(ps.toList.map fun p=>(p.1,s2.ev p.2))=ps.toList.map fun p=>(p.1,s.ev p.2):=by
  intro ps hp
  apply List.map_congr_left
  intro q hq
  rw [hp q.2 (by simpa using ⟨q.1,by simpa using hq⟩)]
 have opts:∀ o:Option Operand,(∀ x∈o.toArray,s2.ev x=s.ev x)→o.map s2.ev=o.map s.ev:=by
  intro o ho
  cases o with
  | none=>rfl
  | some x=>simp [ho x (by simp)]
 have lists:∀ l:Array Operand,(∀ x∈l,s2.ev x=s.ev x)→l.toList.map s2.ev=l.toList.map s.ev:=by
  intro l hl
  apply List.map_congr_left
  intro x hx
  exact hl x (by simpa using hx)
 cases op<;>simp only [Op.operands] at h
 case call c =>
  obtain ⟨callee,args,ts⟩:=c
  cases callee with
  | builtin b =>
   simp only [bW,hH]
   rw [lists args fun x hx=>h x (by simpa [Call.operands] using hx)]
  | _=>simp [bW]
 case slice t x lo hi mx =>
  cases mx with
  | none =>
   simp only [bW,hH]
   rw [h x (by simp),opts lo fun y hy=>h y (by simp at hy ⊢; simp [hy]),opts hi fun y hy=>h y (by simp at hy ⊢; simp [hy])]
  | some _=>simp [bW]
 case makeFunc fn first caps =>
  cases fn with
  | func f =>
   simp only [bW,hH]
   rw [lists caps fun x hx=>h x (by simp [hx])]
  | _=>simp [bW]
 case makeMap t r =>
  cases r with
  | none=>simp only [bW,hH]
  | some _=>simp [bW]
 case build t ps=>simp only [bW,hH]; rw [parts ps fun x hx=>h x hx]
 case buildSlice t n ps=>simp only [bW,hH]; rw [parts ps fun x hx=>h x hx]
 all_goals simp only [bW,hH]
 all_goals first|rfl|(simp only [List.mem_toArray,List.mem_cons,List.not_mem_nil,or_false,forall_eq_or_imp,forall_eq] at h; simp only [h])
theorem iS {s:St} {op:Op} {r:OV} (hT:jF op=false) (h:bW T s op=some r):r.H=s.H∧∀ H2,bW T { s with H:=H2 } op=some { r with H:=H2 }:=by
 have hev:∀ (H2:aw) (x:Operand),({ s with H:=H2 } : St).ev x=s.ev x:=fun H2 x=>by cases x<;>rfl
 have hev' : ∀ (H2:aw),({ s with H:=H2 } : St).ev=s.ev:=fun H2=>funext (hev H2)
 cases op<;>simp only [jF,Bool.true_eq_false] at hT
 case call c =>
  obtain ⟨callee,args,ts⟩:=c
  cases callee with
  | builtin b =>
   simp only [bW,hev'] at h ⊢
   cases b<;>simp only [Bool.true_eq_false] at hT
   ·unfold cH at h ⊢
    split at h<;>simp only [reduceCtorEq] at *
    rename_i x t
    split at h
    ·exact EZ h
    cases h
   ·simp only [cH] at h ⊢
    exact pY h
   simp only [cH] at h ⊢
   exact pY h
  | _=>simp [bW] at h
 all_goals simp only [bW,hev'] at h ⊢
 case move=>cases h; exact ⟨rfl,fun _=>rfl⟩
 case assign=>cases h; exact ⟨rfl,fun _=>rfl⟩
 case pick=>exact BL h
 case binOp=>exact Em h
 case unOp=>exact Gj h
 case nilCheck=>exact EW h
 case index =>
  split at h
  ·exact zy h
  cases h
 case convert=>exact CR h
 case extract=>exact uQ h
 case fieldAddr =>
  split at h
  ·exact qA h
  cases h
 case field =>
  split at h
  ·rename_i x _ _ _ _
   cases hl:(s.ev x).isAgg<;>rw [hl] at h
   ·cases h
   simp only [cond_true] at h ⊢; exact yy h
  cases h
 case indexAddr =>
  split at h
  ·exact rv h
  cases h
 case slice t x lo hi mx =>
  cases mx with
  | none =>
   simp only at h ⊢
   split at h
   ·exact zP h
   cases h
  | some _=>simp at h
 case build =>
  split at h
  ·exact zl h
  cases h
 case buildSlice =>
  split at h
  ·exact pt h
  cases h
theorem yF {s:St} {op:Op} {r:OV} (hW:kL op=false) (h:bW T s op=some r):r.H=s.H:=by
 by_cases hT:jF op=false
 ·exact (iS hT h).1
 rw [Bool.not_eq_false] at hT
 cases op<;>simp only [jF,kL,Bool.true_eq_false,Bool.false_eq_true] at hT hW
 case load =>
  simp only [bW] at h
  split at h
  ·exact qB h
  cases h
 case makeFunc fn first caps =>
  cases fn with
  | func f =>
   simp only [bW] at h
   cases hf:first.isEmpty<;>rw [hf] at h
   ·cases h
   exact mR h
  | _=>simp [bW] at h
 case call c =>
  obtain ⟨callee,args,ts⟩:=c
  cases callee with
  | builtin b =>
   simp only [bW] at h
   unfold cH at h
   split at h<;>simp_all
  | _=>simp [bW] at h
 case lookup =>
  simp only [bW] at h
  split at h
  ·exact qq h
  cases h
 all_goals simp [bW] at h
theorem CJ (hT:∀ t ti,T t=some ti→bq P t=some ti) {o:Oper} {s:St} {r:OV} (h:bW T s o.op=some r) (hvc:r.vc):B2 P o s r.av r.H:=by
 refine ⟨fun s2 hn ha hH=>?_,fun hf=>⟨(iS hf h).1,fun s2 hn ha=>?_⟩,fun hw=>yF hw h⟩
 ·have:=mi (T:=T) ha hH
  rw [h] at this
  exact (dL hT this hvc).wp
 have h1:=(iS hf h).2 s2.H
 have:=mi (T:=T) (s:={ s with H:=s2.H }) (s2:=s2) (op:=o.op) (fun x hx=>by rw [ha x hx]; cases x<;>rfl) rfl
 rw [h1] at this
 exact (dL hT this hvc).wp
inductive X where
 | run (vc:Prop) (s:St)
 | stop (vc:Prop) (rest:List Oper) (s:St)
def ay (s:St):Option Tmp→Prop
 | none=>True
 | some t=>t < s.n
def after (o:Oper) (s:St) (r:OV):St:=({ s with H:=r.H } : St).put o.dst r.av
def zh (T:TypeId→Option TI) (all:Array Oper) (o:Oper) (rest:List Oper) (vc:Prop) (s:St):X:=
 match bw all s o with
 | some true =>
  match bW T s o.op with
  | some r=>.run (vc∧ay s o.dst∧r.vc) (after o s r)
  | none=>.stop vc (o :: rest) s
 | some false=>.run (vc∧ay s o.dst) (s.put o.dst (.p (.tup [])))
 | none=>.stop vc (o :: rest) s
def sQ (T:TypeId→Option TI) (all:Array Oper):List Oper→X→X
 | [],x=>x
 | o :: r,.run vc s=>sQ T all r (zh T all o r vc s)
 | _ :: _,.stop vc rest s=>.stop vc rest s
def iA (P:Program) (draw:Bool) (all:Array Oper) (rest:List Oper) (K:St→Prop) (s:St):Prop:=∃ s',nv P draw all rest s s'∧K s'
def fin (P:Program) (draw:Bool) (all:Array Oper) (K:St→Prop):X→Prop
 | .run vc s=>vc∧K s
 | .stop vc rest s=>vc∧iA P draw all rest K s
theorem cP {s:St} {d:Option Tmp} (h:ay s d):∀ t,d=some t→t < s.n:=by
 rintro t rfl; exact h
theorem p7 (all:Array Oper) (l:List Oper) (vc:Prop) (rest:List Oper) (s:St):sQ T all l (.stop vc rest s) = .stop vc rest s:=by cases l<;>rfl
theorem kn (hT:∀ t ti,T t=some ti→bq P t=some ti) {draw:Bool} {all:Array Oper} {K:St→Prop} : ∀ (ops:List Oper) (vc:Prop) (s:St),fin P draw all K (sQ T all ops (.run vc s))→vc∧iA P draw all ops K s
 | [],vc,s,h=>⟨h.1,s,.nil s,h.2⟩
 | o :: r,vc,s,h=>by
  simp only [sQ,zh] at h
  split at h
  ·rename_i hg
   split at h
   ·rename_i ov hov
    obtain ⟨⟨h1,h2,h3⟩,s',hr,hK⟩:=kn hT r _ _ h
    exact ⟨h1,s',.cons (.op s ov.av ov.H hg (cP h2) (dL hT hov h3).wp fun _=>CJ hT hov h3) hr,hK⟩
   rw [p7] at h; exact h
  ·rename_i hg
   obtain ⟨⟨h1,h2⟩,s',hr,hK⟩:=kn hT r _ _ h
   exact ⟨h1,s',.cons (.skip s hg (cP h2)) hr,hK⟩
  rw [p7] at h; exact h
theorem aa (hT:∀ t ti,T t=some ti→bq P t=some ti) {draw:Bool} {all:Array Oper} {rest:List Oper} {K:St→Prop} {s:St} (h:fin P draw all K (sQ T all rest (.run True s))):iA P draw all rest K s:=
 (kn hT rest True s h).2
end
open Go.RowKit
def Holds (P:Program) (c:Code) (Q:Exit→St→Prop) (s:St):Prop:=
 ∀ (r:Option Nat) (ds:List Deferred) C m (a:Act) w,Rel C m s a.tmps w→a.defers=ds→pE r P c (fun e a' w'=>∃ s' m',Q e s'∧Rel C m' s' a'.tmps w'∧a'.defers=ds) a w
def Hc (K:St→Prop) (Q:Exit→St→Prop):Exit→St→Prop
 | .normal,s=>K s
 | e,s=>Q e s
def FV (id:Nat) (Q:Exit→St→Prop):Exit→St→Prop
 | .exit j,s=>if j=id then Q .normal s else Q (.exit j) s
 | e,s=>Q e s
section
variable {P:Program} {Q:Exit→St→Prop} {s:St}
theorem Ha {K:St→Prop} (h:K s):Hc K Q .normal s:=h
theorem Gs {K:St→Prop} (h:Q .ret s):Hc K Q .ret s:=h
theorem F8 {K:St→Prop} {id:Nat} (h:Q (.exit id) s):Hc K Q (.exit id) s:=h
theorem GF {id:Nat} (h:Q .normal s):FV id Q .normal s:=h
theorem Gm {id:Nat} (h:Q .ret s):FV id Q .ret s:=h
theorem Gi {id:Nat} (h:Q .normal s):FV id Q (.exit id) s:=by simp only [FV,if_true]; exact h
theorem EV {x y:Code} (h:Holds P x (Hc (Holds P y Q) Q) s):Holds P (.seq x y) Q s:=by
 intro r ds C m a w R hd
 refine Cs (fY (h r ds C m a w R hd) fun e a' w' ⟨s',m',h1,h2,h3⟩=>?_)
 cases e with
 | normal=>exact h1 r ds C m' a' w' h2 h3
 | _=>exact ⟨s',m',h1,h2,h3⟩
theorem yY {id:Nat} {c:Code} (h:Holds P c (FV id Q) s):Holds P (.block id c) Q s:=by
 intro r ds C m a w R hd
 refine wZ (fY (h r ds C m a w R hd) fun e a' w' ⟨s',m',h1,h2,h3⟩=>?_)
 cases e with
 | exit j =>
  simp only [FV,Exit.inBlock] at h1 ⊢
  by_cases e:j=id
  ·rw [if_pos e] at h1 ⊢; exact ⟨s',m',h1,h2,h3⟩
  rw [if_neg e] at h1 ⊢; exact ⟨s',m',h1,h2,h3⟩
 | _=>exact ⟨s',m',h1,h2,h3⟩
theorem zK {c:Code} (hg:∀ l s',¬ Q (.goto l) s') (h:Holds P c Q s):Holds P (.scope c) Q s:=by
 intro r ds C m a w R hd
 refine kq (fY (h r ds C m a w R hd) fun e a' w' ⟨s',m',h1,h2,h3⟩=>?_)
 cases e with
 | goto l=>exact hg l s' h1
 | _=>exact ⟨s',m',h1,h2,h3⟩
theorem Bz (h:Q .normal s):Holds P .skip Q s:=fun _ _ _ m _ _ R hd=>yn ⟨s,m,h,R,hd⟩
theorem CF {id:Nat} (h:Q (.exit id) s):Holds P (.exit id) Q s:=fun _ _ _ m _ _ R hd=>zz ⟨s,m,h,R,hd⟩
theorem D5 (h:Q .ret s):Holds P .ret Q s:=fun _ _ _ m _ _ R hd=>Br ⟨s,m,h,R,hd⟩
def DI (s:St) (c:Operand):Option Bool:=
 match s.ev c with
 | .p (.bool b)=>some b
 | _=>none
theorem an {c:Operand} {x y:Code} {b:Bool} (hc:DI s c=some b) (hx:b=true→Holds P x Q s) (hy:b=false→Holds P y Q s):Holds P (.cond c x y) Q s:=by
 intro r ds C m a w R hd
 have he:a.eval c = .bool b:=by
  have:=R.ev c
  unfold DI at hc
  split at hc<;>simp only [Option.some.injEq,reduceCtorEq] at hc
  rename_i b' hb
  rw [hb] at this
  rw [← hc]
  exact this.aQ.fa
 exact oN he (fun h=>hx h r ds C m a w R hd) (fun h=>hy h r ds C m a w R hd)
theorem ab {id:Nat} {l:List Oper} (h:∀ K:St→Prop,(∀ s',Q .normal s'→K s')→iA P false l.toArray l K s):Holds P (.region id l.toArray false) Q s:=by
 intro r ds C m a w R hd
 obtain ⟨s',hr,hK⟩:=h (Q .normal) fun _ h=>h
 exact oL (hr.sound R hd fun m' a' w' R' hd'=>⟨s',m',hK,R',hd'⟩)
def HZ (l:List Oper):Bool:=l.all fun o=>o.guard.isNone || !kL o.op
theorem bf {id:Nat} {l:List Oper} (hm:P.follows .mixedOrders=true) (hok:(ry l.toArray && HZ l)=true) (h:∀ K:St→Prop,(∀ s',Q .normal s'→K s')→iA P true l.toArray l K s):Holds P (.region id l.toArray true) Q s:=by
 intro r ds C m a w R hd
 rw [Bool.and_eq_true] at hok
 obtain ⟨s',hr,hK⟩:=h (Q .normal) fun _ h=>h
 refine jb hm ?_
 refine uU hok.1 (fun o ho hg=>?_) hr (R.later ⟨rfl,rfl,rfl,Nat.le_refl _,fun _ _=>rfl,Nat.le_succ _⟩) hd fun m' a' w' R' hd'=>⟨s',m',hK,R',hd'⟩
 have:=(List.all_eq_true.1 hok.2) o ho
 cases hgu:o.guard with
 | none=>exact absurd hgu hg
 | some g=>rw [hgu] at this; simpa using this
def br (n:Nat):AV→Bool
 | .sl k _ _=>k < n
 | .ptr k _=>k < n
 | .mptr k=>k < n
 | .sls k _ _ _=>k < n
 | .agg _=>false
 | .tup _=>false
 | .cl _ _=>false
 | .yv _ _ _=>false
 | _=>true
def bb (n:Nat):AV→Bool
 | .agg l=>l.all (br n)
 | .tup l=>l.all (br n)
 | .cl _ l=>l.all (br n)
 | .yv k l _=>decide (k < n) && l.all (br n)
 | x=>br n x
def bu (π:List Nat):AV→AV
 | .sl k lo len=>.sl (π.getD k 0) lo len
 | .ptr k i=>.ptr (π.getD k 0) i
 | .mptr k=>.mptr (π.getD k 0)
 | .sls k lo len sz=>.sls (π.getD k 0) lo len sz
 | x=>x
def bl (π:List Nat):AV→AV
 | .agg l=>.agg (l.map (bu π))
 | .tup l=>.tup (l.map (bu π))
 | .cl f l=>.cl f (l.map (bu π))
 | .yv k l vs=>.yv (π.getD k 0) (l.map (bu π)) vs
 | x=>bu π x
def jY (π:List Nat):List (Nat × AV)→St→Prop
 | [],_=>True
 | (t,x) :: r,s=>s.get t=bl π x∧bb π.length x=true∧jY π r s
def jT (π:List Nat) (H:aw) (k:Nat):aL→Prop
 | .dead=>True
 | .own c=>(match aq H k with | .own d=>c.map (bl π)=d.take c.length∧c.all (bb π.length)=true | _=>False)
 | .fro c=>aq H k = .fro c
 | .mp kk d v=>aq H k = .mp kk d v
 | .lp r=>aq H k = .lp r
 | .dx i j=>aq H k = .dx i (π.getD j 0)∧j < π.length
def kp (π:List Nat) (H:aw):List Nat→aw→Prop
 | [],[]=>True
 | k :: ks,b :: r=>jT π H k b∧kp π H ks r
 | _,_=>False
def Le (π:List Nat) (s1 s:St):Prop:=s1.n=s.n∧π.Nodup∧kp π s.H π s1.H∧jY π s1.sl s
theorem jY.get {π:List Nat} : ∀ {l:List (Nat × AV)} {s:St},jY π l s→∀ t,lk l t = .dead∨(s.get t=bl π (lk l t)∧bb π.length (lk l t)=true)
 | [],s,_,t=>.inl rfl
 | (i,x) :: r,s,h,t=>by
  simp only [lk]
  cases e:(i == t)
  ·simp only [cond_false]; exact jY.get h.2.2 t
  simp only [cond_true]
  have:i=t:=by simpa using e
  subst this
  exact .inr ⟨h.1,h.2.1⟩
theorem kp.get {π:List Nat} {H:aw} : ∀ {ks:List Nat} {H1:aw},kp π H ks H1→ks.length=H1.length∧∀ (k:Nat) (b:aL),H1[k]? = some b→∃ k',ks[k]? = some k'∧jT π H k' b
 | [],[],_=>⟨rfl,fun k b h=>by simp at h⟩
 | k0 :: ks,b0 :: r,h=>by
  obtain ⟨h1,h2⟩:=kp.get h.2
  refine ⟨by simp [h1],fun k b hk=>?_⟩
  cases k with
  | zero=>simp at hk; subst hk; exact ⟨k0,rfl,h.1⟩
  | succ k=>simpa using h2 k b (by simpa using hk)
 | [],_ :: _,h=>h.elim
 | _ :: _,[],h=>h.elim
def cK (m:Map) (π:List Nat):Map:=fun k=>(π[k]?).bind m
theorem aH.gI {rd rd' : PV→Value→Prop} {m:Map} {H H1:aw} {π:List Nat} (h1:∀ p v,rd p v→rd' p v) (hl1:H1.length=π.length) {x:AV} {v:Value} (h:aH rd m H (bu π x) v) (hs:br π.length x=true):aH rd' (cK m π) H1 x v:=by
 cases x with
 | dead=>exact .dead v
 | p pv=>exact .p pv v (h1 _ _ h.aQ)
 | sl k lo len =>
  have hk:k < π.length:=by simpa [br] using hs
  simp only [bu,List.getD_eq_getElem?_getD,List.getElem?_eq_getElem hk,Option.getD_some] at h
  cases h with
  | sl _ _ _ _ _ h =>
   refine .sl k lo len v (by omega) ?_
   unfold Ck cK at *
   rw [List.getElem?_eq_getElem hk]
   exact h
 | ptr k i =>
  have hk:k < π.length:=by simpa [br] using hs
  simp only [bu,List.getD_eq_getElem?_getD,List.getElem?_eq_getElem hk,Option.getD_some] at h
  cases h with
  | ptr _ _ _ _ h =>
   refine .ptr k i v (by omega) ?_
   unfold wE cK at *
   rw [List.getElem?_eq_getElem hk]
   exact h
 | agg l=>simp [br] at hs
 | tup l=>simp [br] at hs
 | cl f l=>simp [br] at hs
 | lJ r=>cases h; exact .lJ r
 | sls k lo len sz =>
  have hk:k < π.length:=by simpa [br] using hs
  simp only [bu,List.getD_eq_getElem?_getD,List.getElem?_eq_getElem hk,Option.getD_some] at h
  cases h with
  | sls _ _ _ _ _ _ h =>
   refine .sls k lo len sz v (by omega) ?_
   unfold wo cK at *
   rw [List.getElem?_eq_getElem hk]
   exact h
 | mptr k =>
  have hk:k < π.length:=by simpa [br] using hs
  simp only [bu,List.getD_eq_getElem?_getD,List.getElem?_eq_getElem hk,Option.getD_some] at h
  cases h with
  | mptr _ _ _ h =>
   refine .mptr k v (by omega) ?_
   unfold qR cK at *
   rw [List.getElem?_eq_getElem hk]
   exact h
 | yv k l vs=>simp [br] at hs
theorem aH.tg {rd rd' : PV→Value→Prop} {m:Map} {H H1:aw} {π:List Nat} (h1:∀ p v,rd p v→rd' p v) (hl1:H1.length=π.length) {x:AV} {v:Value} (h:aH rd m H (bl π x) v) (hs:bb π.length x=true):aH rd' (cK m π) H1 x v:=by
 cases x with
 | agg l =>
  simp only [bl,bb] at h hs
  cases h with
  | agg _ vs hl hr =>
   refine .agg l vs (by simpa using hl) fun c hc=>?_
   have:=hr c (by simpa using hc)
   rw [List.getElem_map] at this
   exact this.gI h1 hl1 ((List.all_eq_true.1 hs) _ (List.getElem_mem hc))
 | tup l =>
  simp only [bl,bb] at h hs
  cases h with
  | tup _ vs hl hr =>
   refine .tup l vs (by simpa using hl) fun c hc=>?_
   have:=hr c (by simpa using hc)
   rw [List.getElem_map] at this
   exact this.gI h1 hl1 ((List.all_eq_true.1 hs) _ (List.getElem_mem hc))
 | cl f l =>
  simp only [bl,bb] at h hs
  cases h with
  | cl _ _ vs hl hr =>
   refine .cl f l vs (by simpa using hl) fun c hc=>?_
   have:=hr c (by simpa using hc)
   rw [List.getElem_map] at this
   exact this.gI h1 hl1 ((List.all_eq_true.1 hs) _ (List.getElem_mem hc))
 | yv k l vs =>
  simp only [bl,bb,Bool.and_eq_true,decide_eq_true_eq] at h hs
  obtain ⟨hk,hs⟩:=hs
  simp only [List.getD_eq_getElem?_getD,List.getElem?_eq_getElem hk,Option.getD_some] at h
  cases h with
  | yv _ _ _ _ _ h hl hr =>
   refine .yv k l vs v (by omega) ?_ (by simpa using hl) fun c hc=>?_
   ·unfold CM cK at *
    rw [List.getElem?_eq_getElem hk]
    exact h
   have:=hr c (by simpa using hc)
   rw [List.getElem_map] at this
   exact this.gI h1 hl1 ((List.all_eq_true.1 hs) _ (List.getElem_mem hc))
 | dead=>exact .dead v
 | p pv=>exact aH.gI h1 hl1 h hs
 | sl k lo len=>exact aH.gI h1 hl1 h hs
 | ptr k i=>exact aH.gI h1 hl1 h hs
 | mptr k=>exact aH.gI h1 hl1 h hs
 | lJ r=>exact aH.gI h1 hl1 h hs
 | sls k lo len sz=>exact aH.gI h1 hl1 h hs
def aL.wr:aL→Bool
 | .own _=>true
 | .mp _ _ _=>true
 | .lp _=>true
 | _=>false
theorem kp.own {π:List Nat} {H H1:aw} (g2:∀ (k:Nat) (b:aL),H1[k]? = some b→∃ k',π[k]? = some k'∧jT π H k' b):∀ (k:Nat) (c:List AV),H1[k]? = some (aL.own c)→∃ (k' : Nat) (d:List AV),π[k]? = some k'∧H[k']? = some (aL.own d)∧c.all (bb π.length)=true∧c.map (bl π)=d.take c.length:=by
 intro k c hk
 obtain ⟨k',a,b⟩:=g2 k _ hk
 unfold jT at b
 simp only at b
 split at b
 ·rename_i d hd
  exact ⟨k',d,a,bj hd,b.2,b.1⟩
 exact b.elim
theorem OK.weaken {C:Ctx} {m:Map} {H H1:aw} {π:List Nat} {w:World} (h3:kp π H π H1):∀ b,OK C m H w b→OK C (cK m π) H1 w b:=by
 refine fun b hb=>⟨hb.1,hb.2.1,fun k c l hk hl=>?_⟩
 obtain ⟨k',d,a1,a2,a3,_⟩:=kp.own (h3.get).2 k c hk
 simp only [cK,a1,Option.bind_some] at hl
 exact hb.2.2 k' _ l a2 hl
theorem Rel.vu {C C' : Ctx} {m:Map} {s1:St} {π:List Nat} {tmps tmps' : Array Value} {w:World} (R:Rel C m s tmps w) (e1:tmps'.size=s1.n) (hnd:π.Nodup) (h3:kp π s.H π s1.H) (ho:∀ b,OK C m s.H w b→OK C' (cK m π) s1.H w b)
  (hbel:bZ C'.B C'.w0 w) (hbase:∀ b,w.heap.size≤b→C'.B b) (hB:∀ (k:Nat) (b:aL) (l:Loc),s1.H[k]? = some b→b.wr=true→cK m π k=some l→C.B l.g→C'.B l.g)
  (hanc:∀ (k i j:Nat),s1.H[k]? = some (aL.dx i j)→j < s1.H.length∧cK m π j=C'.dx i) (hslot:∀ t,aH (Reads (OK C' (cK m π) s1.H w) w) (cK m π) s1.H (s1.get t) (tmps'.getD t undef)):Rel C' (cK m π) s1 tmps' w:=by
 obtain ⟨g1,g2⟩:=h3.get
 have own:=kp.own g2
 have hr:∀ p v,Reads (OK C m s.H w) w p v→Reads (OK C' (cK m π) s1.H w) w p v:=fun p v h=>h.mono ho
 have mps:∀ (k:Nat) (kk:IntKind) (d:Int→Bool) (v:Int→PV),s1.H[k]? = some (aL.mp kk d v)→∃ k',π[k]? = some k'∧s.H[k']? = some (aL.mp kk d v):=by
  intro k kk d v hk
  obtain ⟨k',a,b⟩:=g2 k _ hk
  exact ⟨k',a,b9 b (by simp)⟩
 refine ⟨R.laid.ext hr,hbel,hbase,e1,?_,?_,?_,hslot,fun k kk d v hk=>?_,fun k k' kk d v kk' d' v' l l' h1 h2 h3 h4 h5=>?_,hanc,?_⟩
 rotate_left 5
 ·have lps:∀ (k:Nat) (r:Loop),s1.H[k]? = some (aL.lp r)→∃ k',π[k]? = some k'∧s.H[k']? = some (aL.lp r):=by
   intro k r hk
   obtain ⟨k',a,b⟩:=g2 k _ hk
   exact ⟨k',a,b9 b (by simp)⟩
  refine R.mp.2.2.2.ext (fun k=>π.getD k 0) (fun k r h=>?_) (fun k k' r r' h1 h2 e=>?_) (fun _ _ _ _ _ _=>rfl) fun k r l h hl h2=>hB k _ l h rfl hl h2
  ·obtain ⟨k',a1,a2⟩:=lps k r h
   have e:π.getD k 0=k':=by simp [List.getD,a1]
   exact ⟨by simp only [e]; exact a2,by simp only [cK,a1,Option.bind_some,e]⟩
  obtain ⟨j,a1,_⟩:=lps k r h1
  obtain ⟨j',b1,_⟩:=lps k' r' h2
  simp only [List.getD,a1,b1,Option.getD_some] at e
  obtain ⟨hk,hk2⟩:=List.getElem?_eq_some_iff.1 a1
  obtain ⟨hk',hk2'⟩:=List.getElem?_eq_some_iff.1 b1
  have hp:=List.pairwise_iff_getElem.1 hnd
  rcases Nat.lt_trichotomy k k' with h | h | h
  ·exact absurd (hk2.trans (e.trans hk2'.symm)) (hp k k' hk hk' h)
  ·exact h
  exact absurd (hk2'.trans (e.symm.trans hk2.symm)) (hp k' k hk' hk h)
 rotate_left 3
 ·obtain ⟨j,b1,b2⟩:=mps k kk d v hk
  have hm:cK m π k=m j:=by simp only [cK,b1,Option.bind_some]
  obtain ⟨l,ar,clk,vs,a1,a2,a3,a4,a5,a6,a7⟩:=R.mp.1 j kk d v b2
  exact ⟨l,ar,clk,vs,by rw [hm]; exact a1,hB k _ l hk rfl (by rw [hm]; exact a1) a2,a3,a4,a5,a6,fun z hz=>hr _ _ (a7 z hz)⟩
 ·obtain ⟨j,b1,b2⟩:=mps _ _ _ _ h1
  obtain ⟨j',c1,c2⟩:=mps _ _ _ _ h2
  simp only [cK,b1,c1,Option.bind_some] at h3 h4
  have:=R.mp.2.1 _ _ _ _ _ _ _ _ _ _ b2 c2 h3 h4 h5
  subst this
  obtain ⟨hk,hk2⟩:=List.getElem?_eq_some_iff.1 b1
  obtain ⟨hk',hk2'⟩:=List.getElem?_eq_some_iff.1 c1
  have hp:=List.pairwise_iff_getElem.1 hnd
  rcases Nat.lt_trichotomy k k' with h | h | h
  ·exact absurd (hk2.trans hk2'.symm) (hp k k' hk hk' h)
  ·exact h
  exact absurd (hk2'.trans hk2.symm) (hp k' k hk' hk h)
 ·intro k k' c c' l l' a1 a2 a3 a4 a5
  obtain ⟨j,_,b1,b2,_⟩:=own k c a1
  obtain ⟨j',_,b1',b2',_⟩:=own k' c' a2
  simp only [cK,b1,b1',Option.bind_some] at a3 a4
  have:=R.inj j j' _ _ l l' b2 b2' a3 a4 a5
  subst this
  obtain ⟨hk,hk2⟩:=List.getElem?_eq_some_iff.1 b1
  obtain ⟨hk',hk2'⟩:=List.getElem?_eq_some_iff.1 b1'
  have hp:=List.pairwise_iff_getElem.1 hnd
  rcases Nat.lt_trichotomy k k' with h | h | h
  ·exact absurd (hk2.trans hk2'.symm) (hp k k' hk hk' h)
  ·exact h
  exact absurd (hk2'.trans hk2.symm) (hp k' k hk' hk h)
 ·intro k c hk
  obtain ⟨k',d,a1,a2,ew,hcd⟩:=own k c hk
  have hm:cK m π k=m k':=by simp only [cK,a1,Option.bind_some]
  have hlen:c.length≤d.length:=by
   have:=congrArg List.length hcd
   simp only [List.length_map,List.length_take] at this
   omega
  rcases R.blk k' _ a2 with ⟨hc,hn⟩ | ⟨l,cur,e,b1,b2,b3,b4,b5,b6,b7⟩
  ·subst hc
   exact .inl ⟨List.eq_nil_of_length_eq_zero (by simpa using hlen),by rw [hm]; exact hn⟩
  refine .inr ⟨l,cur,e,by rw [hm]; exact b1,hB k _ l hk rfl (by rw [hm]; exact b1) b2,b3,b4,b5,by omega,fun j hj=>?_⟩
  have:=b7 j (by omega)
  have e:d[j]'(by omega)=bl π c[j]:=by
   have h3:(c.map (bl π))[j]? = (d.take c.length)[j]?:=by rw [hcd]
   rw [List.getElem?_map,List.getElem?_eq_getElem hj,List.getElem?_take,if_pos hj,List.getElem?_eq_getElem (by omega)] at h3
   simpa using h3.symm
  rw [e] at this
  exact this.tg hr g1.symm ((List.all_eq_true.1 ew) _ (List.getElem_mem hj))
 intro k c hk
 obtain ⟨k',a,b⟩:=g2 k _ hk
 have hm:cK m π k=m k':=by simp only [cK,a,Option.bind_some]
 rcases (R.fro k' c (gj b)).ext (m':=m) ho (fun _ _=>rfl) rfl with ⟨e1,e2⟩ | ⟨l,vs,e1,e2⟩
 ·exact .inl ⟨e1,by rw [hm]; exact e2⟩
 exact .inr ⟨l,vs,by rw [hm]; exact e1,e2⟩
theorem Rel.weaken {C:Ctx} {m:Map} {s1:St} {π:List Nat} {tmps:Array Value} {w:World} (R:Rel C m s tmps w) (h:Le π s1 s):Rel C (cK m π) s1 tmps w:=by
 obtain ⟨e1,hnd,h3,h2⟩:=h
 have ho:=OK.weaken (C:=C) (m:=m) (w:=w) h3
 obtain ⟨g1,g2⟩:=h3.get
 refine R.vu (by rw [e1]; exact R.size) hnd h3 ho R.below R.base (fun _ _ _ _ _ _ h=>h) (fun k i j hk=>?_) fun t=>?_
 ·obtain ⟨k',a,b⟩:=g2 k _ hk
  unfold jT at b
  simp only at b
  obtain ⟨b1,b2⟩:=b
  obtain ⟨_,c2⟩:=R.mp.2.2.1 k' i _ (b9 b1 (by simp))
  refine ⟨by omega,?_⟩
  rw [← c2]
  simp only [cK,List.getElem?_eq_getElem b2,Option.bind_some,List.getD_eq_getElem?_getD,Option.getD_some]
 rcases h2.get t with e | ⟨e,ew⟩
 ·unfold St.get; rw [e]; exact .dead _
 have:=R.slot t
 rw [e] at this
 exact this.tg (fun p v h=>h.mono ho) g1.symm ew
theorem C7 {c:Code} {s1:St} (π:List Nat) (hle:Le π s1 s) (h:Holds P c Q s1):Holds P c Q s:=
 fun r ds C m a w R hd=>h r ds C _ a w (R.weaken hle) hd
theorem aA {c:Code} {ι:Type} (S:ι→St) (I:ι→Prop) (μ:ι→Nat) (i0:ι) (h0:I i0) (π:List Nat) (hs:Le π (S i0) s)
  (step:∀ i,I i→Holds P c (Hc (fun s'=>∃ j π,I j∧μ j < μ i∧Le π (S j) s') Q) (S i)):Holds P (.loop c) Q s:=by
 intro r ds C m a w R hd
 let good:Nat→Act→World→Prop:=fun n a w=>∃ i m,I i∧μ i=n∧Rel C m (S i) a.tmps w∧a.defers=ds
 have least:∀ (p:Nat→Prop),(∃ n,p n)→∃ n,p n∧∀ k,p k→n≤k:=by
  intro p ⟨n,hn⟩
  induction n using Nat.strongRecOn with
  | _ n ih =>
   by_cases h:∃ k,k < n∧p k
   ·obtain ⟨k,hk,hp⟩:=h; exact ih k hk hp
   exact ⟨n,hn,fun k hp=>Nat.le_of_not_lt fun hk=>h ⟨k,hk,hp⟩⟩
 have hex:∀ a w,∃ n,(∃ k,good k a w)→good n a w∧∀ k,good k a w→n≤k:=by
  intro a w
  by_cases h:∃ k,good k a w
  ·obtain ⟨n,h1,h2⟩:=least _ h; exact ⟨n,fun _=>⟨h1,h2⟩⟩
  exact ⟨0,fun h'=>absurd h' h⟩
 let ms:Act→World→Nat:=fun a w=>Classical.choose (hex a w)
 have hms:∀ a w,(∃ k,good k a w)→good (ms a w) a w∧∀ k,good k a w→ms a w≤k:=fun a w=>Classical.choose_spec (hex a w)
 refine y9 (fun a w=>∃ k,good k a w) ms ⟨μ i0,i0,_,h0,rfl,R.weaken hs,hd⟩ fun a w hg=>?_
 obtain ⟨⟨i,m,hI,hμ,R,hd⟩,_⟩:=hms a w hg
 refine fY (step i hI r ds C m a w R hd) fun e a' w' ⟨s',m',h1,h2,h3⟩=>?_
 cases e with
 | normal =>
  obtain ⟨j,π',hJ,hlt,hle⟩:=h1
  have hg' : good (μ j) a' w':=⟨j,_,hJ,rfl,h2.weaken hle,h3⟩
  exact ⟨⟨_,hg'⟩,by have:=(hms a' w' ⟨_,hg'⟩).2 _ hg'; rw [hμ] at hlt; omega⟩
 | _=>exact ⟨s',m',h1,h2,h3⟩
end
open Go.RowKit
def dB (H:aw):AV→Option (Prop × PV × Bool)
 | .p v=>some (True,v,true)
 | .sl k lo len =>
  match aq H k with
  | .own c =>
   match eL ((c.drop lo).take len) with
   | some ps=>some (lo + len≤c.length∧ps.all PV.one=true,.list ps,false)
   | none=>none
  | .fro c=>some (lo + len≤c.length∧((c.drop lo).take len).all PV.one=true,.list ((c.drop lo).take len),true)
  | .dead=>none
  | .mp _ _ _=>none
  | .dx _ _=>none
  | .lp _=>none
 | .ptr k i =>
  match aq H k with
  | .fro c=>some (i≤c.length,.ptr (c.drop i),true)
  | .own c =>
   match eL (c.drop i) with
   | some ps=>some (i≤c.length,.ptr ps,false)
   | none=>none
  | .dead=>none
  | .mp _ _ _=>none
  | .dx _ _=>none
  | .lp _=>none
 | _=>none
def cq (f:AV→Option (Prop × PV × Bool)):List AV→Option (Prop × List PV × Bool)
 | []=>some (True,[],true)
 | x :: r =>
  match f x,cq f r with
  | some (p,v,b),some (q,l,c)=>some (p∧q,v :: l,b && c)
  | _,_=>none
def dK (H:aw):AV→Option (Prop × PV × Bool)
 | .agg l=>match cq (dB H) l with | some (p,ps,b)=>some (p,.agg ps,b) | none=>none
 | .cl f l=>match cq (dB H) l with | some (p,ps,b)=>some (p,.fn f ps,b) | none=>none
 | x=>dB H x
def r7 (H:aw):AV→Option (Prop × PV × Bool)
 | .tup l=>match cq (dK H) l with | some (p,ps,b)=>some (p,.tup ps,b) | none=>none
 | x=>dK H x
section
variable {P:Program} {T:TypeId→Option TI} {C:Ctx} {m:Map} {s:St} {tmps:Array Value} {w:World}
def Hx (okA:Nat→Prop) (w w' : World) (b:Nat):Prop:=(okA b∨w.heap.size≤b)∧b < w'.heap.size
def fresh (okA:Nat→Prop) (w:World):Ctx:=⟨okA,fun b=>w.heap.size≤b,w,fun _=>none⟩
def Hy (C:Ctx) (w:World) (b:Nat):Prop:=(C.okA b∨C.B b)∧b < w.heap.size
def qi (C:Ctx) (m:Map) (H:aw) (w:World) (pv:PV) (b:Bool) (v:Value):Prop:=Reads (Hy C w) w pv v∧(b=true→Reads (OK C m H w) w pv v)
theorem uo {H:aw} (b:Nat) (h:OK C m H w b):Hy C w b:=⟨h.1,h.2.1⟩
theorem qi.of {H:aw} {pv:PV} {b:Bool} {v:Value} (h:Reads (OK C m H w) w pv v):qi C m H w pv b v:=⟨h.mono (fun b hb=>uo b hb),fun _=>h⟩
theorem l8 {ok:Nat→Prop} {ps:List PV} {g o len cap:Nat} (hl:ps.length=len) (hone:ps.all PV.one=true) (hok:ok g) (hcap:len≤cap) (vs:Nat→Value)
  (hc:∀ j,j < len→w.cell? ⟨g,o + j,none⟩=some (vs j)) (hr:∀ j (h:j < ps.length),Reads ok w ps[j] (vs j)):Reads ok w (.list ps) (.slice (some ⟨g,o,none⟩) len cap):=by
 subst hl
 have hf:=iq hone
 refine .list ps g o cap 1 vs hok (fun x hx=>?_) hcap (fun c hcl=>?_) fun c hcl=>?_
 ·rw [cells_one ((List.all_eq_true.1 hone) x hx)]; rfl
 ·rw [hf] at hcl; exact hc c hcl
 simp only [hf] at hcl ⊢; exact hr c hcl
theorem jC (R:Rel C m s tmps w) {x:AV} {v:Value} (hv:aH (Reads (OK C m s.H w) w) m s.H x v) {p:Prop} {pv:PV} {b:Bool} (h:dB s.H x=some (p,pv,b)) (hp:p):qi C m s.H w pv b v:=by
 unfold dB at h
 split at h
 ·simp only [Option.some.injEq,Prod.mk.injEq] at h
  obtain ⟨_,rfl,rfl⟩:=h
  exact .of hv.aQ
 ·rename_i k lo len
  cases hv with
  | sl _ _ _ _ hk hs =>
   split at h
   ·rename_i c hg
    split at h<;>simp only [Option.some.injEq,Prod.mk.injEq,reduceCtorEq] at h
    rename_i ps hps
    obtain ⟨rfl,rfl,rfl⟩:=h
    obtain ⟨h1,h2⟩:=hp
    have hcs:=fN hps
    have hlen:ps.length=len:=by
     have:=congrArg List.length hcs
     simp only [List.length_take,List.length_drop,List.length_map] at this
     omega
    refine ⟨?_,fun h=>by cases h⟩
    rcases hs with ⟨rfl,ad,rfl⟩ | ⟨l,cap,hm,rfl,hc1,hc2⟩
    ·have:ps=[]:=List.eq_nil_of_length_eq_zero hlen
     subst this
     exact .list0 _ _ fun _=>rfl
    rcases R.blk k c (bj hg) with ⟨_,hn⟩ | ⟨l',cur,e,hm2,hB,hh,hs1,hs3,hs2,hcells⟩
    ·rw [hm] at hn; cases hn
    rw [hm] at hm2; cases hm2
    refine l8 hlen h2 ⟨.inr hB,(Array.getElem?_eq_some_iff.1 hh).1⟩ hc1 (fun j=>cur.getD (l.o + (lo + j)) undef) (fun j hj=>?_) fun j hj=>?_
    ·rw [Nat.add_assoc]; exact cell_of hh (by omega)
    have:=hcells (lo + j) (by omega)
    have e:c[lo + j]'(by omega) = .p ps[j]:=by
     have h3:((c.drop lo).take len)[j]? = (ps.map AV.p)[j]?:=by rw [hcs]
     rw [List.getElem?_take,if_pos (by omega),List.getElem?_drop,List.getElem?_eq_getElem (by omega),List.getElem?_map,List.getElem?_eq_getElem hj] at h3
     simpa using h3
    rw [e] at this
    exact this.aQ.mono (fun b hb=>uo b hb)
   ·rename_i c hg
    simp only [Option.some.injEq,Prod.mk.injEq] at h
    obtain ⟨rfl,rfl,rfl⟩:=h
    obtain ⟨h1,h2⟩:=hp
    have hlen:((c.drop lo).take len).length=len:=by simp only [List.length_take,List.length_drop]; omega
    refine .of ?_
    rcases hs with ⟨rfl,ad,rfl⟩ | ⟨l,cap,hm,rfl,hc1,hc2⟩
    ·simp only [List.take_zero]
     exact .list0 _ _ fun _=>rfl
    rcases R.fro k c (gj hg) with ⟨_,hn⟩ | ⟨l',vs,hm2,hB,hl,hcells⟩
    ·rw [hm] at hn; cases hn
    rw [hm] at hm2; cases hm2
    refine l8 hlen h2 hB hc1 (fun j=>vs (lo + j)) (fun j hj=>?_) fun j hj=>?_
    ·rw [Nat.add_assoc]; exact (hcells (lo + j) (by omega)).1
    rw [hlen] at hj
    simp only [List.getElem_take,List.getElem_drop]
    exact (hcells (lo + j) (by omega)).2
   ·cases h
   ·cases h
   ·cases h
   cases h
 ·rename_i k i
  split at h
  ·rename_i c hg
   simp only [Option.some.injEq,Prod.mk.injEq] at h
   obtain ⟨rfl,rfl,rfl⟩:=h
   cases hv with
   | ptr _ _ _ hk hs =>
   obtain ⟨l,hm,rfl⟩:=hs
   rcases R.fro k c (gj hg) with ⟨_,hn⟩ | ⟨l',vs,hm2,hB,hl,hcells⟩
   ·rw [hm] at hn; cases hn
   rw [hm] at hm2; cases hm2
   refine .of (.ptr _ _ _ (fun j=>vs (i + j)) hB (fun j hj=>?_) fun j hj=>?_)
   ·simp only [List.length_drop] at hj
    rw [Nat.add_assoc]; exact (hcells (i + j) (by omega)).1
   simp only [List.length_drop] at hj
   simp only [List.getElem_drop]
   exact (hcells (i + j) (by omega)).2
  ·rename_i c hg
   split at h<;>simp only [Option.some.injEq,Prod.mk.injEq,reduceCtorEq] at h
   rename_i ps hps
   obtain ⟨rfl,rfl,rfl⟩:=h
   have hcs:=fN hps
   have hlen:ps.length=c.length - i:=by
    have:=congrArg List.length hcs
    simp only [List.length_drop,List.length_map] at this
    omega
   cases hv with
   | ptr _ _ _ hk hs =>
   obtain ⟨l,hm,rfl⟩:=hs
   refine ⟨?_,fun h=>by cases h⟩
   rcases R.blk k c (bj hg) with ⟨_,hn⟩ | ⟨l',cur,e,hm2,hB,hh,hs1,hs3,hs2,hcells⟩
   ·rw [hm] at hn; cases hn
   rw [hm] at hm2; cases hm2
   refine .ptr _ _ _ (fun j=>cur.getD (l.o + (i + j)) undef) ⟨.inr hB,(Array.getElem?_eq_some_iff.1 hh).1⟩ (fun j hj=>?_) fun j hj=>?_
   ·rw [Nat.add_assoc]; exact cell_of hh (by omega)
   have:=hcells (i + j) (by omega)
   have e:c[i + j]'(by omega) = .p ps[j]:=by
    have h3:(c.drop i)[j]? = (ps.map AV.p)[j]?:=by rw [hcs]
    rw [List.getElem?_drop,List.getElem?_eq_getElem (by omega),List.getElem?_map,List.getElem?_eq_getElem hj] at h3
    simpa using h3
   rw [e] at this
   exact this.aQ.mono (fun b hb=>uo b hb)
  ·cases h
  ·cases h
  ·cases h
  cases h
 cases h
theorem dy {f:AV→Option (Prop × PV × Bool)} {H:aw} {R0:AV→Value→Prop} (hf:∀ {x v p pv b},R0 x v→f x=some (p,pv,b)→p→qi C m H w pv b v) :
  ∀ (l:List AV) (vs:Nat→Value) {p:Prop} {ps:List PV} {b:Bool},(∀ c (h:c < l.length),R0 l[c] (vs c))→cq f l=some (p,ps,b)→p→ps.length=l.length∧(∀ c (h:c < ps.length),Reads (Hy C w) w ps[c] (vs c))∧(b=true→∀ c (h:c < ps.length),Reads (OK C m H w) w ps[c] (vs c))
 | [],vs,p,ps,b,_,h,_=>by
  simp only [cq,Option.some.injEq,Prod.mk.injEq] at h
  obtain ⟨_,rfl,_⟩:=h
  exact ⟨rfl,fun c h=>by simp at h,fun _ c h=>by simp at h⟩
 | x :: r,vs,p,ps,b,hr,h,hp=>by
  simp only [cq] at h
  split at h<;>simp only [Option.some.injEq,Prod.mk.injEq,reduceCtorEq] at h
  rename_i p1 v1 b1 q1 l1 c1 h1 h2
  obtain ⟨rfl,rfl,rfl⟩:=h
  have a1:=hf (hr 0 (by simp)) h1 hp.1
  obtain ⟨e1,e2,e3⟩:=dy (R0:=R0) (f:=f) (fun h1 h2 h3=>hf h1 h2 h3) r (fun c=>vs (c + 1)) (fun c hc=>by have:=hr (c + 1) (by simpa using hc); simpa using this) h2 hp.2
  refine ⟨by simp [e1],fun c hc=>?_,fun hb c hc=>?_⟩
  ·cases c with
   | zero=>exact a1.1
   | succ c=>exact e2 c (by simpa using hc)
  rw [Bool.and_eq_true] at hb
  cases c with
  | zero=>exact a1.2 hb.1
  | succ c=>exact e3 hb.2 c (by simpa using hc)
theorem fM (R:Rel C m s tmps w) {x:AV} {v:Value} (hv:aH (Reads (OK C m s.H w) w) m s.H x v) {p:Prop} {pv:PV} {b:Bool} (h:dK s.H x=some (p,pv,b)) (hp:p):qi C m s.H w pv b v:=by
 unfold dK at h
 split at h
 ·rename_i l
  split at h<;>simp only [Option.some.injEq,Prod.mk.injEq,reduceCtorEq] at h
  rename_i p1 ps b1 hl
  obtain ⟨rfl,rfl,rfl⟩:=h
  cases hv with
  | agg _ vs hsz hr =>
   obtain ⟨e1,e2,e3⟩:=dy (fun {x v p pv b} (hx:aH (Reads (OK C m s.H w) w) m s.H x v) h hp=>jC R hx h hp) l (fun c=>vs.getD c undef) hr hl hp
   exact ⟨.agg _ _ (by omega) e2,fun hb=>.agg _ _ (by omega) (e3 hb)⟩
 ·rename_i f l
  split at h<;>simp only [Option.some.injEq,Prod.mk.injEq,reduceCtorEq] at h
  rename_i p1 ps b1 hl
  obtain ⟨rfl,rfl,rfl⟩:=h
  cases hv with
  | cl _ _ vs hsz hr =>
   obtain ⟨e1,e2,e3⟩:=dy (fun {x v p pv b} (hx:aH (Reads (OK C m s.H w) w) m s.H x v) h hp=>jC R hx h hp) l (fun c=>vs.getD c undef) hr hl hp
   exact ⟨.fn _ _ _ (by omega) e2,fun hb=>.fn _ _ _ (by omega) (e3 hb)⟩
 exact jC R hv h hp
theorem xJ (R:Rel C m s tmps w) {x:AV} {v:Value} (hv:aH (Reads (OK C m s.H w) w) m s.H x v) {p:Prop} {pv:PV} {b:Bool} (h:r7 s.H x=some (p,pv,b)) (hp:p):qi C m s.H w pv b v:=by
 unfold r7 at h
 split at h
 ·rename_i l
  split at h<;>simp only [Option.some.injEq,Prod.mk.injEq,reduceCtorEq] at h
  rename_i p1 ps b1 hl
  obtain ⟨rfl,rfl,rfl⟩:=h
  cases hv with
  | tup _ vs hsz hr =>
   obtain ⟨e1,e2,e3⟩:=dy (fun {x v p pv b} (hx:aH (Reads (OK C m s.H w) w) m s.H x v) h hp=>fM R hx h hp) l (fun c=>vs.getD c undef) hr hl hp
   exact ⟨.tup _ _ (by omega) e2,fun hb=>.tup _ _ (by omega) (e3 hb)⟩
 exact fM R hv h hp
theorem ob {ok ok' : Nat→Prop} {w' : World} {p:PV} {v:Value} (h:Reads ok w p v) (hf:p.fU=true):Reads ok' w' p v:=by
 have sc:∀ {p:PV} {v:Value},Reads ok w p v→(match p with | .int _ _=>true | .bool _=>true | .str _=>true | _=>false)=true→Reads ok' w' p v:=by
  intro p v h hf
  cases h<;>simp at hf
  ·exact .int _ _
  ·exact .bool _
  exact .str _
 have ag:∀ {l:List PV} {vs:Array Value},Reads ok w (.agg l) (.agg vs)→(l.all fun | .int _ _=>true | .bool _=>true | .str _=>true | _=>false)=true→Reads ok' w' (.agg l) (.agg vs):=by
  intro l vs h hf
  cases h with
  | agg _ _ hl hr =>
   refine .agg _ _ hl fun c hc=>sc (hr c hc) ?_
   have:=(List.all_eq_true.1 hf) l[c] (List.getElem_mem hc)
   exact this
 cases h with
 | int k i=>exact .int _ _
 | bool b=>exact .bool _
 | str s=>exact .str _
 | nil=>exact .nil
 | agg l vs hl hr=>exact ag (.agg l vs hl hr) hf
 | tup l vs hl hr =>
  refine .tup _ _ hl fun c hc=>?_
  have h1:=(List.all_eq_true.1 hf) l[c] (List.getElem_mem hc)
  have h2:=hr c hc
  generalize l[c]=x at h1 h2 ⊢
  generalize vs.getD c undef=v at h2 ⊢
  cases h2 with
  | int k i=>exact .int _ _
  | bool b=>exact .bool _
  | str s=>exact .str _
  | agg l vs hl hr=>exact ag (.agg l vs hl hr) h1
  | _=>simp at h1
 | _=>simp [PV.fU] at hf
def H3 (P:Program) (g:FuncId):Prop:=∃ fn,P.funcs[g]? = some fn∧(fn.name == "runtime.NumGoroutine")=false∧fn.body.isNone=false
def cL (P:Program) (f:FuncId) (args:List PV) (r:PV):Prop:=
 H3 P f∧∀ (okA:Nat→Prop) (w:World) (vals:Array Value),oW okA w→vals.size=args.length→(∀ i (h:i < args.length),Reads okA w args[i] (vals.getD i undef)) →
  Calls P f vals w fun e w'=>∃ v,e = .returned v∧Below w.heap.size w w'∧Reads (Hx okA w w') w' r v
def gr (s:St) (fo:Operand) (args:Array Operand):Option (FuncId × List PV × Prop × Bool):=
 match s.ev fo with
 | .p (.fn g cap) =>
  match cq (dK s.H) (args.toList.map s.ev) with
  | some (p,pvs,b)=>some (g,pvs++cap,p,b)
  | none=>none
 | _=>none
theorem rU {s s2:St} {fo:Operand} {args:Array Operand} {ts:Array TypeId} (h:∀ x∈(Op.call { callee:=.value fo,args:=args,argTypes:=ts }).operands,s2.ev x=s.ev x) (hH:s2.H=s.H):gr s2 fo args=gr s fo args:=by
 simp only [Op.operands,Call.operands] at h
 have h1:s2.ev fo=s.ev fo:=h fo (by simp)
 have h2:args.toList.map s2.ev=args.toList.map s.ev:=List.map_congr_left fun x hx=>h x (by simp; right; simpa using hx)
 unfold gr
 rw [h1,h2,hH]
theorem mw {o:Oper} {fo:Operand} {args:Array Operand} {ts:Array TypeId} (ho:o.op = .call { callee:=.value fo,args:=args,argTypes:=ts }) {g:FuncId} {avs:List PV} {p:Prop} {b:Bool} {r:PV}
  (hc:cL P g avs r) (hcall:gr s fo args=some (g,avs,p,b)) (hp:p) (hb:(b || r.fU)=true):fe P o s (.p r) s.H:=by
 intro C m a w K Q R hK
 unfold gr at hcall
 split at hcall
 ·rename_i g' cap hf
  split at hcall<;>simp only [Option.some.injEq,Prod.mk.injEq,reduceCtorEq] at hcall
  rename_i p' pvs b' hpl
  obtain ⟨rfl,rfl,rfl,rfl⟩:=hcall
  have hfv:=R.ev fo
  rw [hf] at hfv
  generalize hfe:a.eval fo=fv at hfv
  have hfv:=hfv.aQ
  cases hfv with
  | fn _ _ vs hcl hcr =>
   obtain ⟨⟨fn,hfn,hnm,hbd⟩,hcalls⟩:=hc
   obtain ⟨e1,e2,e3⟩:=dy (C:=C) (m:=m) (w:=w) (H:=s.H) (fun {x v p pv b} (hx:aH (Reads (OK C m s.H w) w) m s.H x v) h hp=>fM R hx h hp) (args.toList.map s.ev) (fun c=>(args.toList.map a.eval).getD c undef) (fun c hc=>by
    simp only [List.length_map] at hc
    have:=R.ev (args.toList[c])
    simpa [List.getD,List.getElem?_map,List.getElem?_eq_getElem hc] using this) hpl hp
   simp only [List.length_map] at e1
   have hvals:∀ i (h:i < (pvs++cap).length),(args.map a.eval++vs).getD i undef=if i < pvs.length then (args.toList.map a.eval).getD i undef else vs.getD (i - pvs.length) undef:=by
    intro i hi
    simp only [Array.getD_eq_getD_getElem?]
    by_cases hip:i < pvs.length
    ·rw [if_pos hip,Array.getElem?_append_left (by simp at e1 ⊢; omega)]
     simp [List.getD]
    rw [if_neg hip,Array.getElem?_append_right (by simp at e1 ⊢; omega)]
    congr 2
    simp at e1 ⊢; omega
   have hrun:(execOp a.eval o).run P w = .ok (.enter g' (args.map a.eval++vs)) w:=by
    have hnm' : ¬ fn.name = "runtime.NumGoroutine":=by simpa using hnm
    have hbd' : ¬ fn.body=none:=by intro e; rw [e] at hbd; simp at hbd
    simp [execOp,ho,resolve,hfe,Deferred.ofValue,invoke,callFunc,hfn,hnm',hbd']
   refine eF (by rw [ho]; rfl) ?_
   unfold Oper.wp
   rw [hrun]
   simp only [Oper.upon]
   have hsz:(args.map a.eval++vs).size=(pvs++cap).length:=by simp at e1 ⊢; omega
   have done:∀ (okA:Nat→Prop),oW okA w→(∀ i (h:i < (pvs++cap).length),Reads okA w (pvs++cap)[i] ((args.map a.eval++vs).getD i undef)) →
     (∀ w' v,Below w.heap.size w w'→Reads (Hx okA w w') w' r v→Reads (OK C m s.H w') w' r v)→Calls P g' (args.map a.eval++vs) w fun
      | .returned v,w''=>K (a.put o.dst v) w''
      | .panicked chain,w''=>Q (.panic chain) a w''
      | .outgrown,_=>LetsOut Q:=by
    intro okA h1 h2 h3
    refine (hcalls okA w _ h1 hsz h2).mono fun e w' ⟨v,he,hbl,hv⟩=>?_
    subst he
    exact hK v m w' (R.later hbl) (.p _ _ (h3 w' v hbl hv))
   cases b' with
   | true =>
    refine done (OK C m s.H w) R.yN (fun i hi=>?_) fun w' v hbl hv=>?_
    ·rw [hvals i hi]
     by_cases hip:i < pvs.length
     ·rw [if_pos hip,List.getElem_append_left hip]; exact e3 rfl i hip
     rw [if_neg hip,List.getElem_append_right (by omega)]; exact hcr _ (by simp at hi; omega)
    refine hv.mono fun b hb=>?_
    obtain ⟨hb1,hb2⟩:=hb
    rcases hb1 with hb1 | hb1
    ·exact Rel.yw hbl b hb1
    refine ⟨.inr (R.base _ hb1),hb2,fun k c l hk hl e'=>?_⟩
    rcases R.blk k c hk with ⟨_,hn⟩ | ⟨l2,cur,e2,hl2,_,hg,_⟩
    ·rw [hl] at hn; cases hn
    rw [hl] at hl2; cases hl2
    have:=(Array.getElem?_eq_some_iff.1 hg).1
    have hb1:w.heap.size≤b:=hb1
    omega
   | false =>
    have hfl:r.fU=true:=by simpa using hb
    refine done (fun b=>b < w.heap.size) R.E4 (fun i hi=>?_) fun w' v hbl hv=>ob hv hfl
    rw [hvals i hi]
    by_cases hip:i < pvs.length
    ·rw [if_pos hip,List.getElem_append_left hip]; exact (e2 i hip).mono fun b hb=>hb.2
    rw [if_neg hip,List.getElem_append_right (by omega)]; exact (hcr _ (by simp at hi; omega)).mono fun b hb=>hb.2.1
 cases hcall
theorem zQ {o:Oper} {fo:Operand} {args:Array Operand} {ts:Array TypeId} (ho:o.op = .call { callee:=.value fo,args:=args,argTypes:=ts }) {g:FuncId} {avs:List PV} {p:Prop} {b:Bool} {r:PV}
  (hc:cL P g avs r) (hcall:gr s fo args=some (g,avs,p,b)) (hp:p) (hb:(b || r.fU)=true):B2 P o s (.p r) s.H:=by
 refine ⟨fun s2 hn ha hH=>?_,fun hf=>?_,fun _=>rfl⟩
 ·have:=rU (ts:=ts) (s:=s) (s2:=s2) (fo:=fo) (args:=args) (by rw [← ho]; exact ha) hH
  rw [hcall] at this
  rw [← hH]
  exact mw ho hc this hp hb
 rw [ho] at hf; simp [jF] at hf
theorem al {draw:Bool} {all:Array Oper} {rest:List Oper} {K:St→Prop} {dst:Option Tmp} {ty:TypeId} {pos:String} {aft:Array Edge} {gd:Option (Nat × Bool)} {fo:Operand} {args:Array Operand} {ts:Array TypeId} {g:FuncId} {avs:List PV} {p:Prop} {b:Bool} {r:PV}
  (hc:cL P g avs r) (hg:bw all s { dst:=dst,op:=.call { callee:=.value fo,args:=args,argTypes:=ts },type:=ty,pos:=pos,after:=aft,guard:=gd } = some true)
  (hcall:gr s fo args=some (g,avs,p,b)) (hb:(b || r.fU)=true) (hd:ay s dst) (hp:p) (h:iA P draw all rest K (s.put dst (.p r))) :
  iA P draw all ({ dst:=dst,op:=.call { callee:=.value fo,args:=args,argTypes:=ts },type:=ty,pos:=pos,after:=aft,guard:=gd } :: rest) K s:=by
 obtain ⟨s',hr,hK⟩:=h
 exact ⟨s',.cons (.op s (.p r) s.H hg (cP hd) (mw rfl hc hcall hp hb) fun _=>zQ rfl hc hcall hp hb) hr,hK⟩
def yk:Nat→List PV→List (Nat × AV)
 | _,[]=>[]
 | k,a :: r=>(k,.p a) :: yk (k + 1) r
def entry (n:Nat) (args:List PV):St:=⟨n,yk 0 args,[]⟩
def yX (T:TypeId→Option TI) (s:St):ResultVar→Option (Prop × AV)
 | .tmp t=>some (True,s.get t)
 | .cell x t =>
  match T t with
  | some ti=>match iN ti s.H (s.get x) with | some r=>some (r.vc,r.av) | none=>none
  | none=>none
def ml (T:TypeId→Option TI) (s:St):List ResultVar→Option (Prop × List AV)
 | []=>some (True,[])
 | x :: r =>
  match yX T s x,ml T s r with
  | some (p,v),some (q,l)=>some (p∧q,v :: l)
  | _,_=>none
def je (l:List AV):AV:=
 match l with
 | [x]=>x
 | l=>match eL l with | some ps=>.p (.tup ps) | none=>.tup l
def PV.mO:PV→PV
 | .nil=>.list []
 | .nn l=>.list l
 | .nz=>.list []
 | p=>p
def PV.pW:PV→PV
 | .agg l=>.agg (l.map PV.mO)
 | p=>p.mO
def PV.norm:PV→PV
 | .tup l=>.tup (l.map PV.pW)
 | p=>p.pW
theorem mX {ok:Nat→Prop} {pv:PV} {v:Value} (h:Reads ok w pv v):Reads ok w pv.mO v:=by
 unfold PV.mO
 split
 ·exact h.rY
 ·exact h.wJ
 ·cases h with
  | nz a cap=>exact .list0 _ _ fun h=>by cases h
 exact h
theorem mP {ok:Nat→Prop} {pv:PV} {v:Value} (h:Reads ok w pv v):Reads ok w pv.pW v:=by
 unfold PV.pW
 split
 ·cases h with
  | agg l vs hl hr =>
   refine .agg _ _ (by simpa using hl) fun c hc=>?_
   rw [List.getElem_map]
   exact mX (hr c (by simpa using hc))
 exact mX h
theorem uW {ok:Nat→Prop} {pv:PV} {v:Value} (h:Reads ok w pv v):Reads ok w pv.norm v:=by
 unfold PV.norm
 split
 ·cases h with
  | tup l vs hl hr =>
   refine .tup _ _ (by simpa using hl) fun c hc=>?_
   rw [List.getElem_map]
   exact mP (hr c (by simpa using hc))
 exact mP h
def zn (T:TypeId→Option TI) (rs:List ResultVar) (r:PV) (s:St):Prop:=
 match ml T s rs with
 | some (p,l)=>match r7 s.H (je l) with | some (q,pv,_)=>p∧q∧pv.norm=r | none=>False
 | none=>False
def Cm (T:TypeId→Option TI) (rs:List ResultVar) (r:PV):Exit→St→Prop
 | .normal,s=>zn T rs r s
 | .ret,s=>zn T rs r s
 | _,_=>False
theorem u5:∀ (l:List PV) (k t:Nat),lk (yk k l) t=if k≤t then (match l[t - k]? with | some a=>.p a | none=>.dead) else .dead
 | [],k,t=>by simp [yk,lk]
 | a :: r,k,t=>by
  simp only [yk,lk]
  by_cases h:k=t
  ·subst h; simp
  rw [show (k == t)=false by simpa using h]
  simp only [cond_false]
  rw [u5 r (k + 1) t]
  by_cases hk:k≤t
  ·rw [if_pos (by omega),if_pos hk,show t - k=(t - (k + 1)) + 1 by omega]; rfl
  rw [if_neg (by omega),if_neg hk]
def sy (tmps:Array Value):ResultVar→Sem Value
 | .tmp t=>pure (tmps.getD t undef)
 | .cell a t=>do loadVar t (← asAddr (tmps.getD a undef))
theorem kA (fn:Func) (tmps:Array Value):results fn tmps=(do
  let vs ← fn.results.mapM (sy tmps)
  pure (if h:vs.size=1 then vs[0] else .tuple vs)):=by
 unfold results
 have:(fun x=>match x with
  | .tmp t=>pure (tmps.getD t undef)
  | .cell a t=>do loadVar t (← asAddr (tmps.getD a undef)):ResultVar→Sem Value)=sy tmps:=by
  funext x; cases x<;>rfl
 rw [← this]
 rfl
theorem BI (hT:∀ t ti,T t=some ti→bq P t=some ti) {a:Act} (R:Rel C m s a.tmps w) {x:ResultVar} {p:Prop} {av:AV} (h:yX T s x=some (p,av)) (hp:p) :
  ∃ v,(sy a.tmps x).run P w = .ok v w∧aH (Reads (OK C m s.H w) w) m s.H av v:=by
 cases x with
 | tmp t =>
  simp only [yX,Option.some.injEq,Prod.mk.injEq] at h
  obtain ⟨_,rfl⟩:=h
  exact ⟨_,rfl,R.slot t⟩
 | cell b t =>
  simp only [yX] at h
  split at h
  ·rename_i ti ht
   split at h<;>simp only [Option.some.injEq,Prod.mk.injEq,reduceCtorEq] at h
   rename_i r hr
   obtain ⟨rfl,rfl⟩:=h
   obtain ⟨_,v,hrun,hv⟩:=pa hT R (o:={ dst:=none,op:=.load t (.tmp b),type:=0,pos:="",after:=#[],guard:=none }) (x:=.tmp b) rfl ht (by simpa [St.ev] using hr) hp
   refine ⟨v,?_,hv⟩
   simp only [execOp,Instr.loadAt,Act.eval,Sem.run_bind] at hrun
   cases hpv:a.tmps.getD b undef with
   | pointer ad =>
    rw [hpv] at hrun
    cases ad with
    | some ad =>
     simp only [Instr.sureAddr,Sem.run_pure,Result.andThen_ok] at hrun
     simp only [sy,hpv,asAddr,Sem.run_bind,Sem.run_pure,Result.andThen_ok]
     cases hl:(loadVar t ad).run P w<;>rw [hl] at hrun<;>simp [Result.andThen] at hrun
     rw [hrun.1,hrun.2]
    | none=>simp [Instr.sureAddr] at hrun
   | _=>rw [hpv] at hrun; simp [Instr.sureAddr] at hrun
  cases h
theorem kX (hT:∀ t ti,T t=some ti→bq P t=some ti) {a:Act} (R:Rel C m s a.tmps w):∀ (l:List ResultVar) {p:Prop} {avs:List AV},ml T s l=some (p,avs)→p →
  ∃ vs:List Value,(l.mapM (sy a.tmps)).run P w = .ok vs w∧vs.length=avs.length∧∀ c (h:c < avs.length),aH (Reads (OK C m s.H w) w) m s.H avs[c] (vs.getD c undef)
 | [],p,avs,h,_=>by
  simp only [ml,Option.some.injEq,Prod.mk.injEq] at h
  obtain ⟨_,rfl⟩:=h
  exact ⟨[],rfl,rfl,fun c h=>by simp at h⟩
 | x :: r,p,avs,h,hp=>by
  simp only [ml] at h
  split at h<;>simp only [Option.some.injEq,Prod.mk.injEq,reduceCtorEq] at h
  rename_i p1 v1 q1 l1 h1 h2
  obtain ⟨rfl,rfl⟩:=h
  obtain ⟨v,e1,e2⟩:=BI hT R h1 hp.1
  obtain ⟨vs,f1,f2,f3⟩:=kX hT R r h2 hp.2
  refine ⟨v :: vs,?_,by simp [f2],fun c hc=>?_⟩
  ·rw [List.mapM_cons]
   simp only [Sem.run_bind,e1,Result.andThen_ok,f1,Sem.run_pure]
  cases c with
  | zero=>exact e2
  | succ c=>simpa [List.getD] using f3 c (by simpa using hc)
theorem lU {ok:Nat→Prop} {H:aw} {l:List AV} {vs:List Value} (hl:vs.length=l.length) (hr:∀ c (h:c < l.length),aH (Reads ok w) m H l[c] (vs.getD c undef)) :
  aH (Reads ok w) m H (je l) (if h:vs.toArray.size=1 then vs.toArray[0] else .tuple vs.toArray):=by
 unfold je
 split
 ·rename_i x
  match vs,hl with
  | [v],_=>simpa using hr 0 (by simp)
 rename_i hne
 have h1:¬ vs.toArray.size=1:=by
  intro e
  have:l.length=1:=by simp at e; omega
  obtain ⟨x,rfl⟩:=List.length_eq_one_iff.1 this
  exact hne x rfl
 rw [dif_neg h1]
 have hr' : ∀ c (h:c < l.length),aH (Reads ok w) m H l[c] (vs.toArray.getD c undef):=by
  intro c hc
  have:=hr c hc
  simpa [List.getD,Array.getD_eq_getD_getElem?] using this
 split
 ·rename_i ps hps
  have e:=fN hps
  subst e
  refine .p _ _ (.tup _ _ (by simpa using hl) fun c hc=>?_)
  have:=hr' c (by simpa using hc)
  simp only [List.getElem_map] at this
  exact this.aQ
 exact .tup _ _ (by simpa using hl) hr'
theorem aM (hT:∀ t ti,T t=some ti→bq P t=some ti) {f:FuncId} {fn:Func} {c:Code} {args:List PV} {r:PV} (hf:P.funcs[f]? = some fn) (hb:fn.body=some c) (hnm:(fn.name == "runtime.NumGoroutine")=false) (hn:args.length≤fn.ntmps)
  (h:Holds P c (Cm T fn.results.toList r) (entry fn.ntmps args)):cL P f args r:=by
 refine ⟨⟨fn,hf,hnm,by rw [hb]; rfl⟩,fun okA w vals hok hsz hrd=>calls_of_wp hf hb (o7.1 ?_)⟩
 have hslot:∀ t,(vals++Array.replicate (fn.ntmps - vals.size) undef).getD t undef=if t < vals.size then vals.getD t undef else undef:=by
  intro t
  simp only [Array.getD_eq_getD_getElem?]
  by_cases ht:t < vals.size
  ·rw [if_pos ht,Array.getElem?_append_left ht]
  rw [if_neg ht,Array.getElem?_append_right (by omega),Array.getElem?_replicate]
  split<;>rfl
 have R:Rel (fresh okA w) (fun _=>none) (entry fn.ntmps args) (vals++Array.replicate (fn.ntmps - vals.size) undef) w:=by
  have hOK:∀ b,okA b→OK (fresh okA w) (fun _=>none) [] w b:=fun b hb=>⟨.inl hb,hok.1 b hb,fun k c l h=>by simp at h⟩
  refine ⟨fun g l hg=>(hok.2 g l hg).mono hOK,bZ.refl _ _,fun _ h=>h,by simp [entry]; omega,fun k k' c c' l l' h=>by simp [entry] at h,fun k c h=>by simp [entry] at h,fun k c h=>by simp [entry] at h,fun t=>?_,fun k kk d v h=>by simp [entry] at h,fun k k' kk d v kk' d' v' l l' h=>by simp [entry] at h,fun k i j h=>by simp [entry] at h,fun k r h=>by simp [entry] at h,fun k k' r r' l l' h=>by simp [entry] at h⟩
  rw [hslot]
  unfold St.get entry
  simp only
  rw [u5]
  simp only [Nat.zero_le,if_true,Nat.sub_zero]
  by_cases ht:t < args.length
  ·rw [List.getElem?_eq_getElem ht,if_pos (by omega)]
   exact .p _ _ ((hrd t ht).mono hOK)
  rw [List.getElem?_eq_none (by omega)]
  exact .dead _
 refine fY (h none [] _ _ { tmps:=vals++Array.replicate (fn.ntmps - vals.size) undef,defers:=[] } w R rfl) fun e a' w' ⟨s',m',h1,h2,h3⟩=>?_
 have fini:zn T fn.results.toList r s'→a'.defers=[]∧∃ v,(results fn a'.tmps).run P w' = .ok v w'∧∃ v_1,Ending.returned v = .returned v_1∧Below w.heap.size w w'∧Reads (Hx okA w w') w' r v_1:=by
  intro he
  unfold zn at he
  split at he
  ·rename_i p l hl
   split at he
   ·rename_i q pv b hpk
    obtain ⟨hp,hq,rfl⟩:=he
    obtain ⟨vs,e1,e2,e3⟩:=kX hT h2 fn.results.toList hl hp
    have hv:=lU (w:=w') e2 e3
    have hpv:=xJ h2 hv hpk hq
    refine ⟨h3,_,?_,_,rfl,h2.below.below (fun _ h=>h),uW hpv.1⟩
    rw [kA,Array.mapM_eq_mapM_toList]
    simp only [Sem.run_bind,Sem.run_map]
    rw [e1]
    simp only [Result.andThen_ok]
    rfl
   exact he.elim
  exact he.elim
 cases e with
 | normal=>exact fini h1
 | ret=>exact fini h1
 | _=>exact h1.elim
end
open Go.RowKit
section
variable {P:Program} {T:TypeId→Option TI} {C:Ctx} {m:Map} {s:St} {tmps:Array Value} {w:World} {Q:Exit→St→Prop}
theorem Rel.freeze (R:Rel C m s tmps w) {k:Nat} {c:List AV} {ps:List PV} (hk:aq s.H k = .own c) (hc:eL c=some ps):Rel C m { s with H:=aE s.H k (.fro ps) } tmps w:=by
 have hk:=bj hk
 have hkl:k < s.H.length:=(List.getElem?_eq_some_iff.1 hk).1
 have hcs:=fN hc
 have aq:∀ (j:Nat) (b:aL),(aE s.H k (.fro ps))[j]? = some b→(j=k∧b = .fro ps)∨(j ≠ k∧s.H[j]? = some b):=by
  intro j b h
  rw [cr] at h
  by_cases e:j=k
  ·rw [if_pos ⟨e,hkl⟩] at h; exact .inl ⟨e,(Option.some.inj h).symm⟩
  rw [if_neg (by simp [e])] at h; exact .inr ⟨e,h⟩
 have own:∀ (j:Nat) (d:List AV),(aE s.H k (.fro ps))[j]? = some (.own d)→j ≠ k∧s.H[j]? = some (.own d):=by
  intro j d h
  rcases aq j _ h with ⟨_,h⟩ | h
  ·cases h
  exact h
 have hok:∀ b,OK C m s.H w b→∀ j d l,(aE s.H k (.fro ps))[j]? = some (.own d)→m j=some l→l.g ≠ b:=fun b hb j d l h hl=>hb.2.2 j d l (own j d h).2 hl
 have ho:∀ b,OK C m s.H w b→OK C m (aE s.H k (.fro ps)) w b:=fun b h=>⟨h.1,h.2.1,hok b h⟩
 refine R.heap (bZ.refl _ _) (by simp [aB]) (fun _ _=>rfl) hok (fun _ _=>rfl) ?_ ?_ ?_ (lB rfl)
 ·exact fun j j' c1 c2 l1 l2 h1 h2 h3 h4 h5=>R.inj j j' c1 c2 l1 l2 (own j _ h1).2 (own j' _ h2).2 h3 h4 h5
 ·exact fun j d h=>(R.blk j d (own j d h).2).ext (fun p v h=>h.ext ho fun _ _=>rfl) (by simp [aB]) (fun _ _=>rfl) rfl fun _ _=>rfl
 intro j d h
 rcases aq j _ h with ⟨rfl,h'⟩ | ⟨hne,h⟩
 ·cases h'
  rcases R.blk j c hk with ⟨hc0,hn⟩ | ⟨l,cur,e,hl,hB,hg,h1,h2,h3,hcells⟩
  ·subst hc0
   exact .inl ⟨by simpa using hcs,hn⟩
  have hlen:c.length=ps.length:=by rw [hcs]; simp
  refine .inr ⟨l,fun i=>cur.getD (l.o + i) undef,hl,⟨.inr hB,(Array.getElem?_eq_some_iff.1 hg).1,fun j' d' l' h' hl' e'=>?_⟩,by omega,fun i hi=>⟨cell_of hg (by omega),?_⟩⟩
  ·obtain ⟨h1,h2⟩:=own j' d' h'
   exact h1 (R.inj j' j d' c l' l h2 hk hl' hl e')
  have:=hcells i (by omega)
  have e:c[i]'(by omega) = .p ps[i]:=by simp [hcs]
  rw [e] at this
  exact this.aQ.mono ho
 exact (R.fro j d h).ext ho (fun _ _=>rfl) rfl
theorem cJ {c:Code} (k:Nat) {b:List AV} {ps:List PV} (hk:aq s.H k = .own b) (hc:eL b=some ps) (h:Holds P c Q { s with H:=aE s.H k (.fro ps) }):Holds P c Q s:=
 fun r ds C m a w R hd=>h r ds C m a w (R.freeze hk hc) hd
theorem Rel.pure (R:Rel C m s tmps w) {t:Nat} {p:Prop} {pv:PV} (h:dK s.H (s.get t)=some (p,pv,true)) (hp:p):Rel C m { s with sl:=(t,.p pv) :: s.sl } tmps w:=by
 refine ⟨R.laid,R.below,R.base,R.size,R.inj,R.blk,R.fro,fun t'=>?_,R.mp⟩
 by_cases e:t=t'
 ·subst e
  have e2:({ s with sl:=(t,AV.p pv) :: s.sl } : St).get t = .p pv:=by simp [St.get,lk]
  rw [e2]
  exact .p _ _ ((fM R (R.slot t) h hp).2 rfl)
 have e2:({ s with sl:=(t,AV.p pv) :: s.sl } : St).get t' = s.get t':=by simp [St.get,lk,show (t == t')=false by simpa using e]
 rw [e2]
 exact R.slot t'
theorem lj {c:Code} (t:Nat) {p:Prop} {pv:PV} (hk:dK s.H (s.get t)=some (p,pv,true)) (hp:p) (h:Holds P c Q { s with sl:=(t,.p pv) :: s.sl }):Holds P c Q s:=
 fun r ds C m a w R hd=>h r ds C m a w (R.pure hk hp) hd
theorem Ed (k:IntKind) (i:Int):(PV.int k i).cells=[.int k i]:=rfl
theorem Bn (b:Bool):(PV.bool b).cells=[.bool b]:=rfl
theorem FG (b:ByteArray):(PV.str b).cells=[.str b]:=rfl
theorem C1 (l:List PV):(PV.list l).cells=[.list l]:=rfl
theorem FX (l:List PV):(PV.nn l).cells=[.nn l]:=rfl
theorem EI:PV.nil.cells=[.nil]:=rfl
theorem Fv (l:List PV):(PV.agg l).cells=l:=rfl
theorem Fo (l:List PV):(PV.ptr l).cells=[.ptr l]:=rfl
theorem Gt (f:FuncId) (l:List PV):(PV.fn f l).cells=[.fn f l]:=rfl
theorem DY:(true == true)=true:=rfl
theorem Ee:(true == false)=false:=rfl
theorem EK:(false == true)=false:=rfl
theorem DO:(false == false)=true:=rfl
theorem af {draw:Bool} {all:Array Oper} {K:St→Prop} {vc:Prop} (h1:vc) (h2:K s):fin P draw all K (.run vc s):=⟨h1,h2⟩
theorem ao {draw:Bool} {all:Array Oper} {K:St→Prop} {vc:Prop} {r:List Oper} (h1:vc) (h2:iA P draw all r K s):fin P draw all K (.stop vc r s):=⟨h1,h2⟩
def il (w:List Int):List PV:=w.map (PV.int .i64)
theorem aJ (w:List Int):(il w).length=w.length:=by simp [il]
theorem aW {w:List Int} {i:Nat} (h:i < w.length):(il w).getD i default = .int .i64 (w.getD i 0):=by
 simp [il,List.getD,List.getElem?_eq_getElem h]
theorem gL (w:List Int):(il w).all PV.one=true:=by
 simp [il,PV.one]
theorem yC (w:List Int):(il w).all (fun x=>x.cells.length == 1)=true:=by
 simp [il,PV.cells]
theorem qW (w:List Int) (n:Nat):(il w).take n=il (w.take n):=by simp [il]
theorem BV (w:List Int) (n:Nat):(il w).drop n=il (w.drop n):=by simp [il]
theorem BU (x:Int) (w:List Int):il (x :: w) = .int .i64 x :: il w:=rfl
def ol (w:List Int):List AV:=(il w).map .p
theorem cW (w:List Int):(ol w).length=w.length:=by simp [ol,il]
theorem bK {w:List Int} {i:Nat} (h:i < w.length) (d:AV):(ol w).getD i d = .p (.int .i64 (w.getD i 0)):=by
 simp [ol,il,List.getD,List.getElem?_eq_getElem h]
theorem vz (w:List Int) (n:Nat):(ol w).take n=ol (w.take n):=by simp [ol,il]
theorem rO (w:List Int) (n:Nat):(ol w).drop n=ol (w.drop n):=by simp [ol,il]
theorem pT (v w:List Int):ol v++ol w=ol (v++w):=by simp [ol,il]
theorem ri (v:List Int) (x:Int):ol v++[.p (.int .i64 x)]=ol (v++[x]):=by simp [ol,il]
theorem kv:ol []=[]:=rfl
theorem CZ (x:Int) (w:List Int):ol (x :: w) = .p (.int .i64 x) :: ol w:=rfl
theorem Dc (w:List Int):(ol w).all bp=true:=by simp [ol,il,bp,PV.one]
theorem oq (w:List Int) (π:List Nat):(ol w).map (Go.Pv.bl π)=ol w:=by simp [ol,il,Go.Pv.bl,bu]
theorem fW (w:List Int) (n:Nat):(ol w).all (bb n)=true:=by simp [ol,il,bb,br]
theorem jP (w:List Int):eL (ol w)=some (il w):=by
 induction w with
 | nil=>rfl
 | cons x r ih=>simp only [CZ,eL,ih,Option.map_some,BU]
theorem G7 (w:List Int):(il w).map AV.p=ol w:=rfl
theorem eK {w:List Int} {i:Nat} (x:Int):(ol w).set i (.p (.int .i64 x))=ol (w.set i x):=by
 simp [ol,il,List.map_set]
theorem cg (n:Nat):List.replicate n (AV.p (.int .i64 0))=ol (List.replicate n 0):=by simp [ol,il]
theorem gi {α:Type} (l:List α):l.take l.length=l:=List.take_length
theorem pz {α:Type} (l:List α) (n:Nat):l.take (l.take n).length=l.take n:=by
 rw [List.length_take,Nat.min_def]; split
 ·rfl
 rw [List.take_of_length_le (Nat.le_refl _),List.take_of_length_le (by omega)]
theorem xL {α:Type} (l:List α) (x:α):(l++[x]).take (l.length + 1)=l++[x]:=by
 rw [List.take_of_length_le (by simp)]
theorem xa {α:Type} (l r:List α):(l++r).take (l.length + r.length)=l++r:=by
 rw [List.take_of_length_le (by simp)]
theorem px {α:Type} (l:List α) (n:Nat):(l.drop n).take (l.length - n)=l.drop n:=List.take_of_length_le (by simp)
theorem u4 (m n:Nat):Int.tmod (m:Int) (n:Int)=((m % n:Nat):Int):=rfl
theorem EO (m n:Nat):Int.tdiv (m:Int) (n:Int)=((m / n:Nat):Int):=rfl
theorem BO (a:Nat):((a:Int) - 1).toNat=a - 1:=by omega
theorem CG (a:Nat):((a:Int) + 1).toNat=a + 1:=by omega
theorem Ec (a b:Nat):((a:Int) - (b:Int)).toNat=a - b:=by omega
structure Et (C:Ctx) (m:Map) (H:aw) (w:World) (av:AV) (v:Value):Prop where
 inj:∀ (k k' : Nat) (c c' : List AV) l l',H[k]? = some (aL.own c)→H[k']? = some (aL.own c')→m k=some l→m k' = some l'→l.g=l'.g→k=k'
 blk:∀ (k:Nat) (c:List AV),H[k]? = some (aL.own c)→ma C.B (Reads (OK C m H w) w) m H w k c
 fro:∀ (k:Nat) (c:List PV),H[k]? = some (aL.fro c)→l6 (OK C m H w) w m k c
 val:aH (Reads (OK C m H w) w) m H av v
def C8 (P:Program) (f:FuncId) (args:List PV) (av:AV) (H:aw):Prop:=
 H3 P f∧∀ (okA:Nat→Prop) (w:World) (vals:Array Value),oW okA w→vals.size=args.length→(∀ i (h:i < args.length),Reads okA w args[i] (vals.getD i undef)) →
  Calls P f vals w fun e w'=>∃ v m',e = .returned v∧Below w.heap.size w w'∧Et (fresh okA w) m' H w' av v
def o6 (T:TypeId→Option TI) (rs:List ResultVar) (av:AV) (H:aw) (s:St):Prop:=
 match ml T s rs with
 | some (p,l)=>p∧∃ π,je l=bl π av∧bb π.length av=true∧Le π ⟨s.n,[],H⟩ s
 | none=>False
def o8 (T:TypeId→Option TI) (rs:List ResultVar) (av:AV) (H:aw):Exit→St→Prop
 | .normal,s=>o6 T rs av H s
 | .ret,s=>o6 T rs av H s
 | _,_=>False
theorem xr {P:Program} {f:FuncId} {fn:Func} {args:List PV} {okA:Nat→Prop} {w:World} {vals:Array Value} (_hf:P.funcs[f]? = some fn) (hn:args.length≤fn.ntmps) (hok:oW okA w) (hsz:vals.size=args.length) (hrd:∀ i (h:i < args.length),Reads okA w args[i] (vals.getD i undef)) :
  Rel (fresh okA w) (fun _=>none) (entry fn.ntmps args) (vals++Array.replicate (fn.ntmps - vals.size) undef) w:=by
 have hslot:∀ t,(vals++Array.replicate (fn.ntmps - vals.size) undef).getD t undef=if t < vals.size then vals.getD t undef else undef:=by
  intro t
  simp only [Array.getD_eq_getD_getElem?]
  by_cases ht:t < vals.size
  ·rw [if_pos ht,Array.getElem?_append_left ht]
  rw [if_neg ht,Array.getElem?_append_right (by omega),Array.getElem?_replicate]
  split<;>rfl
 have hOK:∀ b,okA b→OK (fresh okA w) (fun _=>none) [] w b:=fun b hb=>⟨.inl hb,hok.1 b hb,fun k c l h=>by simp at h⟩
 refine ⟨fun g l hg=>(hok.2 g l hg).mono hOK,bZ.refl _ _,fun _ h=>h,by simp [entry]; omega,fun k k' c c' l l' h=>by simp [entry] at h,fun k c h=>by simp [entry] at h,fun k c h=>by simp [entry] at h,fun t=>?_,fun k kk d v h=>by simp [entry] at h,fun k k' kk d v kk' d' v' l l' h=>by simp [entry] at h,fun k i j h=>by simp [entry] at h,fun k r h=>by simp [entry] at h,fun k k' r r' l l' h=>by simp [entry] at h⟩
 rw [hslot]
 unfold St.get entry
 simp only
 rw [u5]
 simp only [Nat.zero_le,if_true,Nat.sub_zero]
 by_cases ht:t < args.length
 ·rw [List.getElem?_eq_getElem ht,if_pos (by omega)]
  exact .p _ _ ((hrd t ht).mono hOK)
 rw [List.getElem?_eq_none (by omega)]
 exact .dead _
theorem uH (hT:∀ t ti,T t=some ti→bq P t=some ti) {f:FuncId} {fn:Func} {c:Code} {args:List PV} {av:AV} {H:aw} (hf:P.funcs[f]? = some fn) (hb:fn.body=some c) (hnm:(fn.name == "runtime.NumGoroutine")=false) (hn:args.length≤fn.ntmps)
  (h:Holds P c (o8 T fn.results.toList av H) (entry fn.ntmps args)):C8 P f args av H:=by
 refine ⟨⟨fn,hf,hnm,by rw [hb]; rfl⟩,fun okA w vals hok hsz hrd=>calls_of_wp hf hb (o7.1 ?_)⟩
 have R:=xr hf hn hok hsz hrd
 refine fY (h none [] _ _ { tmps:=vals++Array.replicate (fn.ntmps - vals.size) undef,defers:=[] } w R rfl) fun e a' w' ⟨s',m',h1,h2,h3⟩=>?_
 have fini:o6 T fn.results.toList av H s'→a'.defers=[]∧∃ v,(results fn a'.tmps).run P w' = .ok v w'∧∃ v_1 m'',Ending.returned v = .returned v_1∧Below w.heap.size w w'∧Et (fresh okA w) m'' H w' av v_1:=by
  intro he
  unfold o6 at he
  split at he
  ·rename_i p l hl
   obtain ⟨hp,π,hav,ew,hle⟩:=he
   obtain ⟨vs,e1,e2,e3⟩:=kX hT h2 fn.results.toList hl hp
   have hv:=lU (w:=w') e2 e3
   have R':=h2.weaken hle
   rw [hav] at hv
   have hlen:H.length=π.length:=(hle.2.2.1.get).1.symm
   have ho:∀ b,OK (fresh okA w) m' s'.H w' b→OK (fresh okA w) (cK m' π) H w' b:=by
    refine fun b hb=>⟨hb.1,hb.2.1,fun k c l hk hl=>?_⟩
    obtain ⟨k',a,b'⟩:=(hle.2.2.1.get).2 k _ hk
    simp only [cK,a,Option.bind_some] at hl
    unfold jT at b'
    simp only at b'
    split at b'
    ·rename_i d hd
     exact hb.2.2 k' _ l (bj hd) hl
    exact b'.elim
   refine ⟨h3,_,?_,_,_,rfl,h2.below.below (fun _ h=>h),R'.inj,R'.blk,R'.fro,hv.tg (fun p v h=>h.mono ho) hlen ew⟩
   rw [kA,Array.mapM_eq_mapM_toList]
   simp only [Sem.run_bind,Sem.run_map]
   rw [e1]
   simp only [Result.andThen_ok]
   rfl
  exact he.elim
 cases e with
 | normal=>exact fini h1
 | ret=>exact fini h1
 | _=>exact h1.elim
def kx (n len:Nat):List Nat:=List.range' n len
def aL.bl (π:List Nat):aL→aL
 | .own c=>.own (c.map (Go.Pv.bl π))
 | b=>b
theorem jz {n len k:Nat} (h:k < len):(kx n len).getD k 0=n + k:=by
 simp [kx,List.getD,h]
theorem aH.shift {rd rd' : PV→Value→Prop} {m m2:Map} {H H2:aw} {n:Nat} (h1:∀ p v,rd p v→rd' p v) (h2:n + H.length≤H2.length) (hm:∀ k,k < H.length→m2 (n + k)=m k) {x:AV} {v:Value} (h:aH rd m H x v)
  (hx:bb H.length x=true):aH rd' m2 H2 (Go.Pv.bl (kx n H.length) x) v:=by
 have one:∀ {x:AV} {v:Value},aH rd m H x v→br H.length x=true→aH rd' m2 H2 (bu (kx n H.length) x) v:=by
  intro x v h hs
  cases h with
  | dead v=>exact .dead v
  | p pv v h=>exact .p pv v (h1 _ _ h)
  | sl k lo len v hk h =>
   simp only [bu,jz hk]
   refine .sl _ lo len v (by omega) ?_
   unfold Ck at *
   rw [hm k hk]; exact h
  | ptr k i v hk h =>
   simp only [bu,jz hk]
   refine .ptr _ i v (by omega) ?_
   unfold wE at *
   rw [hm k hk]; exact h
  | agg l vs hl hr=>simp [br] at hs
  | tup l vs hl hr=>simp [br] at hs
  | cl f l vs hl hr=>simp [br] at hs
  | lJ r=>exact .lJ r
  | sls k lo len sz v hk h =>
   simp only [bu,jz hk]
   refine .sls _ lo len sz v (by omega) ?_
   unfold wo at *
   rw [hm k hk]; exact h
  | mptr k v hk h =>
   simp only [bu,jz hk]
   refine .mptr _ v (by omega) ?_
   unfold qR at *
   rw [hm k hk]; exact h
  | yv k l vs v hk h hl hr=>simp [br] at hs
 cases x with
 | agg l =>
  cases h with
  | agg _ vs hl hr =>
   refine .agg _ vs (by simpa using hl) fun c hc=>?_
   rw [List.length_map] at hc
   rw [List.getElem_map]
   exact one (hr c hc) ((List.all_eq_true.1 hx) _ (List.getElem_mem hc))
 | tup l =>
  cases h with
  | tup _ vs hl hr =>
   refine .tup _ vs (by simpa using hl) fun c hc=>?_
   rw [List.length_map] at hc
   rw [List.getElem_map]
   exact one (hr c hc) ((List.all_eq_true.1 hx) _ (List.getElem_mem hc))
 | cl f l =>
  cases h with
  | cl _ _ vs hl hr =>
   refine .cl _ _ vs (by simpa using hl) fun c hc=>?_
   rw [List.length_map] at hc
   rw [List.getElem_map]
   exact one (hr c hc) ((List.all_eq_true.1 hx) _ (List.getElem_mem hc))
 | yv k l vs =>
  simp only [bb,Bool.and_eq_true,decide_eq_true_eq] at hx
  cases h with
  | yv _ _ _ _ hk h hl hr =>
   simp only [Go.Pv.bl,jz hk]
   refine .yv _ _ vs v (by omega) ?_ (by simpa using hl) fun c hc=>?_
   ·unfold CM at *
    rw [hm k hk]; exact h
   rw [List.length_map] at hc
   rw [List.getElem_map]
   exact one (hr c hc) ((List.all_eq_true.1 hx.2) _ (List.getElem_mem hc))
 | dead=>exact .dead v
 | p pv=>exact one h hx
 | sl k lo len=>exact one h hx
 | ptr k i=>exact one h hx
 | mptr k=>exact one h hx
 | lJ r=>exact one h hx
 | sls k lo len sz=>exact one h hx
def Dk (av:AV) (H:aw):Bool:=
 bb H.length av && H.all fun | .own c=>c.all (bb H.length) | .mp _ _ _=>false | .dx _ _=>false | .lp _=>false | _=>true
theorem Rel.join {okA:Nat→Prop} (R:Rel C m s tmps w) {w' : World} {m' : Map} {av:AV} {H:aw} {v:Value} (hA:∀ b,okA b→OK C m s.H w b) (hbl:Below w.heap.size w w') (ho:Et (fresh okA w) m' H w' av v) (ew:Dk av H=true) :
  ∃ m2,Rel C m2 { s with H:=s.H++H.map (aL.bl (kx s.H.length H.length)) } tmps w' ∧
   aH (Reads (OK C m2 (s.H++H.map (aL.bl (kx s.H.length H.length))) w') w') m2 (s.H++H.map (aL.bl (kx s.H.length H.length))) (Go.Pv.bl (kx s.H.length H.length) av) v:=by
 obtain ⟨hsa,hsb⟩:=Bool.and_eq_true _ _ ▸ ew
 let H2:=s.H++H.map (aL.bl (kx s.H.length H.length))
 let m2:Map:=fun k=>if k < s.H.length then m k else m' (k - s.H.length)
 have hmo:∀ k,k < s.H.length→m2 k=m k:=fun k h=>by simp [m2,h]
 have hmn:∀ k,m2 (s.H.length + k)=m' k:=fun k=>by
  show (if _ then _ else _)=_
  rw [if_neg (by omega),Nat.add_sub_cancel_left]
 have hlt:∀ (k:Nat) (c' : List AV) l,s.H[k]? = some (aL.own c')→m k=some l→l.g < w.heap.size:=by
  intro k c' l h hl
  rcases R.blk k c' h with ⟨_,hn⟩ | ⟨l',cur',e',hl',hB,hg',_⟩
  ·rw [hl] at hn; cases hn
  rw [hl] at hl'; cases hl'
  exact (Array.getElem?_eq_some_iff.1 hg').1
 have hge:∀ (k:Nat) (c' : List AV) l,H[k]? = some (aL.own c')→m' k=some l→w.heap.size≤l.g:=by
  intro k c' l h hl
  rcases ho.blk k c' h with ⟨_,hn⟩ | ⟨l',cur',e',hl',hB,hg',_⟩
  ·rw [hl] at hn; cases hn
  rw [hl] at hl'; cases hl'
  exact hB
 have aq:∀ (k:Nat) (b:aL),H2[k]? = some b→(k < s.H.length∧s.H[k]? = some b)∨∃ j b',k=s.H.length + j∧H[j]? = some b'∧b=b'.bl (kx s.H.length H.length):=by
  intro k b h
  by_cases hk:k < s.H.length
  ·exact .inl ⟨hk,by rwa [List.getElem?_append_left hk] at h⟩
  rw [List.getElem?_append_right (by omega),List.getElem?_map] at h
  cases e:H[k - s.H.length]? with
  | none=>rw [e] at h; cases h
  | some b'=>rw [e] at h; exact .inr ⟨k - s.H.length,b',by omega,e,(Option.some.inj h).symm⟩
 have hown:∀ (k:Nat) (c:List AV),H2[k]? = some (.own c)→(k < s.H.length∧s.H[k]? = some (.own c))∨∃ j c',k=s.H.length + j∧H[j]? = some (.own c')∧c=c'.map (Go.Pv.bl (kx s.H.length H.length)):=by
  intro k c h
  rcases aq k _ h with h | ⟨j,b',rfl,h,e⟩
  ·exact .inl h
  cases b' with
  | own c'=>simp only [aL.bl,aL.own.injEq] at e; exact .inr ⟨j,c',rfl,h,e⟩
  | _=>cases e
 have hok:∀ b,OK C m s.H w b→∀ k c l,H2[k]? = some (.own c)→m2 k=some l→l.g ≠ b:=by
  intro b hb k c l h hl
  rcases hown k c h with ⟨hk,h⟩ | ⟨j,c',rfl,h,_⟩
  ·rw [hmo k hk] at hl; exact hb.2.2 k c l h hl
  rw [hmn] at hl
  have:=hge j c' l h hl
  have:=hb.2.1
  omega
 have hOK:∀ b,OK (fresh okA w) m' H w' b→OK C m2 H2 w' b:=by
  intro b hb
  refine ⟨?_,hb.2.1,fun k c l h hl=>?_⟩
  ·rcases hb.1 with h | h
   ·exact (hA b h).1
   exact .inr (R.base _ h)
  rcases hown k c h with ⟨hk,h⟩ | ⟨j,c',rfl,h,_⟩
  ·rw [hmo k hk] at hl
   rcases hb.1 with h' | h'
   ·exact (hA b h').2.2 k c l h hl
   have:=hlt k c l h hl
   have h' : w.heap.size≤b:=h'
   omega
  rw [hmn] at hl; exact hb.2.2 j c' l h hl
 have hh:∀ b,b < w.heap.size→w'.heap[b]? = w.heap[b]?:=fun b h=>hbl.block b h
 have ho1:∀ b,OK C m s.H w b→OK C m2 H2 w' b:=fun b h=>⟨h.1,Nat.lt_of_lt_of_le h.2.1 hbl.size,hok b h⟩
 have hlen2:s.H.length + H.length≤H2.length:=by simp [H2]
 have hmpH:∀ (k:Nat) (b:aL),b.Dz=true→H2[k]? = some b→s.H[k]? = some b:=by
  intro k b hs h
  rcases aq k _ h with h | ⟨j,b',rfl,h2,e⟩
  ·exact h.2
  subst e
  cases b' with
  | mp _ _ _ =>
   have:=(List.all_eq_true.1 hsb) _ (List.mem_of_getElem? h2)
   simp at this
  | dx _ _ =>
   have:=(List.all_eq_true.1 hsb) _ (List.mem_of_getElem? h2)
   simp at this
  | lp _ =>
   have:=(List.all_eq_true.1 hsb) _ (List.mem_of_getElem? h2)
   simp at this
  | _=>cases hs
 refine ⟨m2,R.heap (hbl.Hd R.base) (by simp) hmo hok (fun b h=>hh b h.2.1) ?_ ?_ ?_ hmpH,?_⟩
 ·intro k k' c c' l l' h1 h2 h3 h4 h5
  rcases hown k c h1 with ⟨hk,h1⟩ | ⟨j,d,rfl,h1,_⟩<;>rcases hown k' c' h2 with ⟨hk',h2⟩ | ⟨j',d',rfl,h2,_⟩
  ·rw [hmo k hk] at h3; rw [hmo k' hk'] at h4
   exact R.inj k k' c c' l l' h1 h2 h3 h4 h5
  ·rw [hmo k hk] at h3; rw [hmn] at h4
   have:=hlt k c l h1 h3
   have:=hge j' d' l' h2 h4
   omega
  ·rw [hmn] at h3; rw [hmo k' hk'] at h4
   have:=hlt k' c' l' h2 h4
   have:=hge j d l h1 h3
   omega
  rw [hmn] at h3 h4
  rw [ho.inj j j' d d' l l' h1 h2 h3 h4 h5]
 ·intro k c h
  rcases hown k c h with ⟨hk,h⟩ | ⟨j,c',rfl,hj,rfl⟩
  ·refine (R.blk k c h).ext (fun p v h=>h.ext ho1 fun b hb=>hh b hb.2.1) (by simp) hmo (hmo k hk) fun l hl=>?_
   exact hh _ (hlt k c l h hl)
  rcases ho.blk j c' hj with ⟨e,hn⟩ | ⟨l,cur,e,h1,h2,h3,h4,h5,h6,h7⟩
  ·exact .inl ⟨by rw [e]; rfl,by rw [hmn]; exact hn⟩
  refine .inr ⟨l,cur,e,by rw [hmn]; exact h1,R.base _ h2,h3,h4,h5,by simpa using h6,fun i hi=>?_⟩
  rw [List.length_map] at hi
  rw [List.getElem_map]
  have hs:bb H.length c'[i]=true:=by
   have:=(List.all_eq_true.1 hsb) _ (List.mem_of_getElem? hj)
   exact (List.all_eq_true.1 this) _ (List.getElem_mem hi)
  exact (h7 i hi).shift (fun p v h=>h.mono hOK) hlen2 (fun k _=>hmn k) hs
 ·intro k c h
  rcases aq k _ h with ⟨hk,h⟩ | ⟨j,b',rfl,h,e⟩
  ·exact (R.fro k c h).ext ho1 (fun b hb=>hh b hb.2.1) (hmo k hk)
  cases b' with
  | fro c' =>
   simp only [aL.bl,aL.fro.injEq] at e
   subst e
   rcases ho.fro j c h with ⟨e1,e2⟩ | ⟨l,vs,e1,e2,e3,e4⟩
   ·exact .inl ⟨e1,by rw [hmn]; exact e2⟩
   exact .inr ⟨l,vs,by rw [hmn]; exact e1,hOK _ e2,e3,fun i hi=>⟨(e4 i hi).1,(e4 i hi).2.mono hOK⟩⟩
  | _=>cases e
 exact ho.val.shift (fun p v h=>h.mono hOK) hlen2 (fun k _=>hmn k) hsa
theorem uR {o:Oper} {fo:Operand} {args:Array Operand} {ts:Array TypeId} (ho:o.op = .call { callee:=.value fo,args:=args,argTypes:=ts }) {g:FuncId} {avs:List PV} {p:Prop} {av:AV} {H:aw}
  (hc:C8 P g avs av H) (hcall:gr s fo args=some (g,avs,p,true)) (hp:p) (ew:Dk av H=true):fe P o s (Go.Pv.bl (kx s.H.length H.length) av) (s.H++H.map (aL.bl (kx s.H.length H.length))):=by
 intro C m a w K Q R hK
 unfold gr at hcall
 split at hcall
 ·rename_i g' cap hf
  split at hcall<;>simp only [Option.some.injEq,Prod.mk.injEq,reduceCtorEq] at hcall
  rename_i p' pvs b' hpl
  obtain ⟨rfl,rfl,rfl,rfl⟩:=hcall
  have hfv:=R.ev fo
  rw [hf] at hfv
  generalize hfe:a.eval fo=fv at hfv
  have hfv:=hfv.aQ
  cases hfv with
  | fn _ _ vs hcl hcr =>
   obtain ⟨⟨fn,hfn,hnm,hbd⟩,hcalls⟩:=hc
   obtain ⟨e1,e2,e3⟩:=dy (C:=C) (m:=m) (w:=w) (H:=s.H) (fun {x v p pv b} (hx:aH (Reads (OK C m s.H w) w) m s.H x v) h hp=>fM R hx h hp) (args.toList.map s.ev) (fun c=>(args.toList.map a.eval).getD c undef) (fun c hc=>by
    simp only [List.length_map] at hc
    have:=R.ev (args.toList[c])
    simpa [List.getD,List.getElem?_map,List.getElem?_eq_getElem hc] using this) hpl hp
   simp only [List.length_map] at e1
   have hvals:∀ i (h:i < (pvs++cap).length),(args.map a.eval++vs).getD i undef=if i < pvs.length then (args.toList.map a.eval).getD i undef else vs.getD (i - pvs.length) undef:=by
    intro i hi
    simp only [Array.getD_eq_getD_getElem?]
    by_cases hip:i < pvs.length
    ·rw [if_pos hip,Array.getElem?_append_left (by simp at e1 ⊢; omega)]
     simp [List.getD]
    rw [if_neg hip,Array.getElem?_append_right (by simp at e1 ⊢; omega)]
    congr 2
    simp at e1 ⊢; omega
   have hrun:(execOp a.eval o).run P w = .ok (.enter g' (args.map a.eval++vs)) w:=by
    have hnm' : ¬ fn.name = "runtime.NumGoroutine":=by simpa using hnm
    have hbd' : ¬ fn.body=none:=by intro e; rw [e] at hbd; simp at hbd
    simp [execOp,ho,resolve,hfe,Deferred.ofValue,invoke,callFunc,hfn,hnm',hbd']
   refine eF (by first|rfl|(rw [ho]; rfl)) ?_
   unfold Oper.wp
   rw [hrun]
   simp only [Oper.upon]
   have hsz:(args.map a.eval++vs).size=(pvs++cap).length:=by simp at e1 ⊢; omega
   refine (hcalls (OK C m s.H w) w _ R.yN hsz (fun i hi=>?_)).mono fun e w' ⟨v,m',he,hbl,hv⟩=>?_
   ·rw [hvals i hi]
    by_cases hip:i < pvs.length
    ·rw [if_pos hip,List.getElem_append_left hip]; exact e3 rfl i hip
    rw [if_neg hip,List.getElem_append_right (by omega)]; exact hcr _ (by simp at hi; omega)
   subst he
   obtain ⟨m2,R2,hv2⟩:=R.join (fun b h=>h) hbl hv ew
   exact hK v m2 w' R2 hv2
 cases hcall
theorem kc {all:Array Oper} {rest:List Oper} {K:St→Prop} {dst:Option Tmp} {ty:TypeId} {pos:String} {aft:Array Edge} {gd:Option (Nat × Bool)} {fo:Operand} {args:Array Operand} {ts:Array TypeId} {g:FuncId} {avs:List PV} {p:Prop} {av:AV} {H:aw}
  (hc:C8 P g avs av H) (hg:bw all s { dst:=dst,op:=.call { callee:=.value fo,args:=args,argTypes:=ts },type:=ty,pos:=pos,after:=aft,guard:=gd } = some true)
  (hcall:gr s fo args=some (g,avs,p,true)) (ew:Dk av H=true) (hd:ay s dst) (hp:p) (h:iA P false all rest K (({ s with H:=s.H++H.map (aL.bl (kx s.H.length H.length)) } : St).put dst (Go.Pv.bl (kx s.H.length H.length) av))) :
  iA P false all ({ dst:=dst,op:=.call { callee:=.value fo,args:=args,argTypes:=ts },type:=ty,pos:=pos,after:=aft,guard:=gd } :: rest) K s:=by
 obtain ⟨s',hr,hK⟩:=h
 exact ⟨s',.cons (.op s _ _ hg (cP hd) (uR rfl hc hcall hp ew) fun h=>by cases h) hr,hK⟩
end
open Go.RowKit
section
variable {P:Program} {T:TypeId→Option TI} {s:St}
theorem eM {all:Array Oper} {rest:List Oper} {K:St→Prop} {o:Oper} {av:AV} {H' : aw} (h1:fe P o s av H') (hg:bw all s o=some true) (hd:ay s o.dst)
  (h:iA P false all rest K (({ s with H:=H' } : St).put o.dst av)):iA P false all (o :: rest) K s:=by
 obtain ⟨s',hr,hK⟩:=h
 exact ⟨s',.cons (.op s _ _ hg (cP hd) h1 fun h=>by cases h) hr,hK⟩
theorem bT {c:Code} {Q:Exit→St→Prop} (t:Nat) (hs:s.get t = .p .nil) (h:Holds P c Q { s with sl:=(t,.sl s.H.length 0 0) :: s.sl,H:=s.H++[.own []] }):Holds P c Q s:=by
 intro r ds C m a w R hd
 have hv:=R.slot t
 rw [hs] at hv
 have hv:=hv.aQ.eP
 have R':=R.qM
 refine h r ds C _ a w ⟨R'.laid,R'.below,R'.base,R'.size,R'.inj,R'.blk,R'.fro,fun t'=>?_,R'.mp⟩ hd
 by_cases e:t=t'
 ·subst e
  have e2:({ s with sl:=(t,.sl s.H.length 0 0) :: s.sl,H:=s.H++[.own []] } : St).get t = .sl s.H.length 0 0:=by simp [St.get,lk]
  rw [e2,hv]
  exact .sl _ _ _ _ (by simp) <| .inl ⟨rfl,none,rfl⟩
 have e2:({ s with sl:=(t,.sl s.H.length 0 0) :: s.sl,H:=s.H++[.own []] } : St).get t' = s.get t':=by simp [St.get,lk,show (t == t')=false by simpa using e]
 rw [e2]
 exact R'.slot t'
inductive Sub:PV→PV→Prop
 | same (a:PV):Sub a a
 | nn (l:List PV):Sub (.nn l) (.list l)
 | nil:Sub .nil (.list [])
 | nz:Sub .nz (.list [])
theorem Sub.reads {a b:PV} (h:Sub a b) {ok:Nat→Prop} {w:World} {v:Value} (hv:Reads ok w a v):Reads ok w b v:=by
 cases h with
 | same=>exact hv
 | nn l=>exact hv.wJ
 | nil=>exact hv.rY
 | nz =>
  cases hv with
  | nz a cap=>exact .list0 _ _ fun h=>by cases h
def tN:List PV→List PV→Prop
 | [],[]=>True
 | a :: r,b :: s=>Sub a b∧tN r s
 | _,_=>False
theorem tN.len:∀ {l r:List PV},tN l r→l.length=r.length
 | [],[],_=>rfl
 | a :: l,b :: r,h=>by simp [tN.len h.2]
 | [],_ :: _,h=>h.elim
 | _ :: _,[],h=>h.elim
theorem tN.get:∀ {l r:List PV},tN l r→∀ (i:Nat) (h:i < l.length) (h' : i < r.length),Sub l[i] r[i]
 | a :: l,b :: r,h,0,_,_=>h.1
 | a :: l,b :: r,h,i + 1,h1,h2=>by simpa using tN.get h.2 i (by simpa using h1) (by simpa using h2)
 | [],[],_,i,h,_=>by simp at h
 | [],_ :: _,h,_,_,_=>h.elim
 | _ :: _,[],h,_,_,_=>h.elim
theorem cL.sub {f:FuncId} {args args' : List PV} {r:PV} (h:cL P f args r) (hs:tN args' args):cL P f args' r:=by
 refine ⟨h.1,fun okA w vals h1 h2 h3=>h.2 okA w vals h1 (h2.trans hs.len) fun i hi=>?_⟩
 have:=hs.len
 exact (hs.get i (by omega) hi).reads (h3 i (by omega))
theorem nQ {c:Code} {Q:Exit→St→Prop} (t k:Nat) {w:List Int} (h1:s.get t = .sl k 0 w.length) (h2:aq s.H k = .own (ol w)) (h:Holds P c Q { s with sl:=(t,.p (.list (il w))) :: s.sl,H:=aE s.H k (.fro (il w)) }):Holds P c Q s:=by
 refine cJ k h2 (jP w) (lj (s:={ s with H:=aE s.H k (.fro (il w)) }) t (p:=0 + w.length≤(il w).length∧(((il w).drop 0).take w.length).all PV.one=true) (pv:=.list (((il w).drop 0).take w.length)) ?_ ?_ ?_)
 ·have e:({ s with H:=aE s.H k (.fro (il w)) } : St).get t = .sl k 0 w.length:=h1
  rw [e]
  have hk:=bj h2
  have hkl:k < s.H.length:=(List.getElem?_eq_some_iff.1 hk).1
  have e2:aq (aE s.H k (.fro (il w))) k = .fro (il w):=by
   have key:∀ (H:aw) (k:Nat) (b:aL),k < H.length→aq (aE H k b) k=b:=by
    intro H
    induction H with
    | nil=>intro k b h; simp at h
    | cons x r ih =>
     intro k b h
     cases k with
     | zero=>rfl
     | succ k=>exact ih k b (by simpa using h)
   exact key _ _ _ hkl
  simp only [dK,dB,e2]
 ·simp only [aJ,List.drop_zero,qW,gi,gL]
  exact ⟨by omega,trivial⟩
 simp only [List.drop_zero,qW,gi]
 exact h
def ll (ls:List (List Int)):List PV:=ls.map fun w=>.list (il w)
theorem au (ls:List (List Int)):(ll ls).length=ls.length:=by simp [ll]
theorem bD {ls:List (List Int)} {i:Nat} (h:i < ls.length):(ll ls).getD i default = .list (il (ls.getD i [])):=by
 simp [ll,List.getD,List.getElem?_eq_getElem h]
theorem js (ls:List (List Int)):(ll ls).all PV.one=true:=by simp [ll,PV.one]
theorem tF (ls:List (List Int)):(ll ls).all (fun x=>x.cells.length == 1)=true:=by simp [ll,PV.cells]
end
def Iy:=And.intro @Ed
 <| And.intro @Bn
 <| And.intro @FG
 <| And.intro @C1
 <| And.intro @FX
 <| And.intro @EI
 <| And.intro @Fv
 <| And.intro @Fo
 <| And.intro @Gt
 <| And.intro @Nat.sub_zero
 <| And.intro @Int.toNat_natCast
 <| And.intro @Int.toNat_zero
 <| And.intro @List.replicate_zero.{0}
 <| And.intro @aJ
 <| And.intro @au
 <| And.intro @js
 <| And.intro @tF
 <| And.intro @gL
 <| And.intro @yC
 <| And.intro @G7
 <| And.intro @cW
 <| And.intro @Dc
 <| And.intro @oq
 <| And.intro @fW
 <| And.intro @jP
 <| And.intro @vz
 <| And.intro @rO
 <| And.intro @pT
 <| And.intro @ri
 <| And.intro @gi
 <| And.intro @qW
 <| And.intro @BV
 <| And.intro @px
 <| And.intro @u4
 <| And.intro @EO
 <| And.intro @BO
 <| And.intro @CG
 <| And.intro @Ec
 <| And.intro @List.headD_cons.{0}
 <| And.intro @List.map_cons.{0,0}
 <| And.intro @List.map_nil.{0,0}
 <| And.intro @List.nil_append.{0}
 <| And.intro @List.append_nil.{0}
 <| And.intro @List.cons_append.{0}
 <| And.intro @List.length_cons.{0}
 <| And.intro @List.length_nil.{0}
 <| And.intro @List.getElem?_cons_zero.{0}
 <| And.intro @List.getElem?_cons_succ.{0}
 <| And.intro @Option.map_some.{0,0}
 <| And.intro @Option.map_none.{0,0}
 <| And.intro @Option.bind_some.{0,0}
 <| And.intro @cond_true.{1}
 <| And.intro @cond_false.{1}
 <| And.intro @Nat.zero_add
 <| And.intro @Nat.add_zero
 <| And.intro @true_and
 <| And.intro @and_true
 <| And.intro @Int.zero_sub
 <| And.intro @Int.neg_zero
 <| And.intro @Int.sub_zero
 <| And.intro @and_self
 <| And.intro @List.getElem?_toArray.{0}
 <| And.intro @List.getD_cons_zero.{0}
 <| And.intro @List.getD_cons_succ.{0}
 <| And.intro @List.all_cons.{0}
 <| And.intro @List.all_nil.{0}
 <| And.intro @Bool.and_true
 <| And.intro @Bool.true_and
 <| And.intro @Bool.and_self
 <| And.intro @List.take_zero.{0}
 <| And.intro @List.drop_zero.{0}
 <| And.intro @DY
 <| And.intro @Ee
 <| And.intro @EK
 <| And.intro @DO
 <| And.intro @Bool.not_true
 <| And.intro @Bool.not_false
 <| And.intro @Bool.false_eq_true
 <| And.intro @Bool.true_eq_false
 <| And.intro @Option.some.injEq.{0}
 <| And.intro @eq_self.{1}
 <| And.intro @ne_eq.{1}
 <| And.intro @not_false_eq_true
 <| And.intro @Nat.one_ne_zero
 <| And.intro @List.take_succ_cons.{0}
 <| And.intro @List.take_nil.{0}
 <| And.intro @List.drop_succ_cons.{0}
 <| And.intro @List.drop_nil.{0}
 <| And.intro @List.set_cons_zero.{0}
 <| And.intro @List.set_cons_succ.{0}
 <| @List.set_nil.{0}
open Go.RowKit Go.ChangeShapes Go.WideShapes
section
variable {H:Type} {enc:TypeId × Value→H} {P:Program}
theorem pQ (hl:laidOutB P=true) {W W' : World} {sp:Nat→Bool} (hb:Below W.heap.size W W'):∀ {ts:List TypeId} {vs:List Value} {ds:List (DataW H)} {ps:List MemPlace},(ts.all fun t=>P.readableRec t && decide (t < P.types.size))=true →
  DataW.TrodAll enc P W 0 (fun _=>true) true ts vs ds ps→(∀ x∈ps,x.block < W.heap.size)→(∀ x∈ps,sp x.block=true)→DataW.TrodAll enc P W' 0 sp true ts vs ds ps
 | [],vs,ds,ps,_,h,_,_=>by
  obtain ⟨rfl,rfl,rfl⟩:=trodAll_nil h
  exact trodAll_mk0
 | t :: ts,vs,ds,ps,ht,h,hlt,hs=>by
  obtain ⟨v,vs',d,ds',p,q,rfl,rfl,rfl,h0,h1⟩:=trodAll_cons h
  simp only [List.all_cons,Bool.and_eq_true,decide_eq_true_eq] at ht
  refine trodAll_cons_mk (WideElems.Trod_stays hl ht.1.1 ht.1.2 h0 (fun x hx=>hb.same (hlt x (by simp [hx]))) fun x hx=>hs x (by simp [hx])) (pQ hl hb ht.2 h1 (fun x hx=>hlt x (by simp [hx])) fun x hx=>hs x (by simp [hx]))
theorem zG (hl:laidOutB P=true) {f:Func} {s:ChangeSpec} {W W' : World} {args:Array Value} {ds gs:List (DataW H)} {before:List MemPlace} {tb:TypeId} (hvars:s.vars=[]) (hr:f.resultTypes = #[tb]) (hb:P.underlying tb=some .bool)
  (hts:(f.params.toList.all fun t=>P.readableRec t && decide (t < P.types.size))=true) (hW:DataW.Whole enc P f.params.toList s.vars false W args.toList ds gs before)
  (hfn:ds.length=f.params.toList.length→s.fn H (ds++[]) = { results:=[.lit (.bool true)],args:=ds }) (hbl:Below W.heap.size W W'):s.post enc P f false true false false W args (.bool true) W':=by
 have hW':=hW
 obtain ⟨p,q,hA,hV,rfl,hfz,hnd⟩:=hW
 rw [hvars] at hV
 obtain ⟨rfl,rfl⟩:=trodVars_none hV
 have hlen:ds.length=f.params.toList.length:=(trodAll_length hA).2
 have hf:=hfn hlen
 have hlt:∀ x∈p,x.block < W.heap.size:=fun x hx=>by simpa using hW'.lt x (by simp [hx])
 have hold:∀ x∈p++[],(fun b=>decide (b < W.heap.size)) x.block=true:=fun x hx=>by simpa using hW'.lt x hx
 have hres:∀ (b:Nat) (sp:Nat→Bool) (hd:Bool),DataW.TrodAll enc P W' b sp hd f.resultTypes.toList ((Value.bool true).resultList f.resultTypes.size) (s.fn H (ds++[])).results []:=by
  intro b sp hd
  rw [hf,hr]
  exact trodAll_mk1 (shut_bool hb _)
 have hargs:∀ sp:Nat→Bool,(∀ x∈p++[],sp x.block=true)→DataW.TrodAll enc P W' 0 sp true f.params.toList args.toList (s.fn H (ds++[])).args p:=by
  intro sp hsp
  rw [hf]
  exact pQ hl hbl hts hA hlt fun x hx=>hsp x (by simp [hx])
 have hvs:∀ sp:Nat→Bool,DataW.TrodVars enc P W' sp s.vars (s.fn H (ds++[])).vars []:=by
  intro sp
  rw [hvars,hf]; rfl
 refine ⟨ds,[],p++[],[],p,[],hW',hres _ _ _,hargs _ hold,hvs _,World.keptBut_mono (fun x hx=>⟨hx,?_⟩) (hbl.frame (·∈p++[])),fun _=>?_⟩
 ·exact Or.inr (by simpa using hx)
 refine ⟨ok_one hr rfl (okWide_bool_mk hb _),_,_,([]++p)++[],⟨[]++p,[],trodAll_append (hargs _ (fun _ _=>rfl)) (hres _ _ _),hvs _,rfl,?_,?_⟩,?_⟩
 ·intro b off hp
  rw [hbl.frozen (p:=⟨b,off,none⟩) (hlt (.cell b off) (by simpa using hp))]
  exact hfz b off (by simpa using hp)
 ·intro ha
  have:=hnd ha
  simpa using this
 intro x hx _
 simpa using hx
end
open Go.RowKit Go.ChangeShapes Go.WideShapes
def gp (n:Int) (m:List Int):PV:=.agg [.int .i64 n,.list (il m)]
section
variable {H:Type} {enc:TypeId × Value→H} {P:Program}
theorem ub {t e:TypeId} {W:World} {fuel:Nat} {cs:List Value} {x:DataW H × List MemPlace} (ht:P.underlying t=some (.slice e)) (he:P.underlying e=some (.int .i64)) (hc:P.cellsOf e=1)
  (hby:P.bytesOf e=8) (hf:DataW.trod enc P W 0 (fun _=>true) true fuel t cs=some x) (hw:(x.1.weights P t).all (·≤reachBytes)=true) :
  ∃ (xs:List Int) (v:Value),cs=[v]∧(∀ x∈xs,ah x)∧xs.length≤17592186043904∧Reads (fun b=>b < W.heap.size) W (.list (il xs)) v:=by
 rcases open_ints ht he hc hf with ⟨rfl,rfl⟩ | ⟨a,len0,cap0,zs,rfl,_,hle,hmax,hall,rfl,hcell,hwf⟩
 ·exact ⟨[],_,rfl,fun x hx=>by simp at hx,Nat.zero_le _,.list0 none 0 fun _=>rfl⟩
 simp only [DataW.weights,ht,hby,List.all_cons,Bool.and_eq_true,decide_eq_true_eq] at hw
 have hbig:(zs.take len0).length * 8≤reachBytes:=by
  have e1:∀ l:List Int,(lits (H:=H) .i64 l).length=l.length:=fun l=>by simp [lits]
  have:=hw.1
  rw [e1,e1] at this
  omega
 unfold reachBytes at hbig
 simp only [if_true] at hall
 have hlen:(zs.take len0).length=len0:=by simp; omega
 refine ⟨zs.take len0,_,rfl,fun x hx=>?_,by omega,?_⟩
 ·have:=hwf x (List.mem_of_mem_take hx)
  simp [Lit.wf,IntKind.min,IntKind.max,IntKind.signed,IntKind.bits] at this
  exact ⟨by omega,by omega⟩
 by_cases h0:len0=0
 ·subst h0
  exact .list0 _ _ fun h=>by cases h
 obtain ⟨b,off,rfl,hcell'⟩:=ints_at (w:=W) hcell (by omega)
 have hone:∀ x∈il (zs.take len0),x.cells.length=1:=by
  intro x hx
  obtain ⟨y,_,rfl⟩:=List.mem_map.1 hx
  rfl
 have hfl:flat (il (zs.take len0))=il (zs.take len0):=iq (gL _)
 have:=Reads.list (ok:=fun b=>b < W.heap.size) (w:=W) (il (zs.take len0)) b off cap0 1 (fun j=>.int .i64 (zs.getD j 0)) ?_ hone (by rw [aJ,hlen]; exact hle) (fun c hcl=>?_) (fun c hcl=>?_)
 ·rwa [aJ,hlen] at this
 ·have:=hcell' 0 (by omega)
  simp only [World.cell?] at this
  by_cases hb:b < W.heap.size
  ·exact hb
  rw [Array.getElem?_eq_none (by omega)] at this
  simp at this
 ·rw [hfl,aJ,hlen] at hcl
  exact hcell' c (by omega)
 simp only [hfl]
 have hcl2:c < len0:=by rw [hfl,aJ,hlen] at hcl; exact hcl
 have e:(il (zs.take len0))[c]'(by rw [aJ,hlen]; exact hcl2) = .int .i64 (zs.getD c 0):=by
  simp [il,List.getD,List.getElem?_eq_getElem (show c < zs.length by omega)]
 rw [e]
 exact .int _ _
theorem Cq {t tl ti:TypeId} {W:World} {base:Nat} {v:Value} {d:DataW H} {p:List MemPlace} {f0 f1:Field} (ht:P.underlying t=some (.struct #[f0,f1])) (hf0:f0.type=ti) (hf1:f1.type=tl) (ho0:f0.offset=0) (ho1:f1.offset=1)
  (hct:P.cellsOf t=2) (hcl:P.cellsOf tl=1) (htl:P.underlying tl=some (.slice ti)) (hti:P.underlying ti=some (.int .i64)) (hc:P.cellsOf ti=1)
  (hby:P.bytesOf ti=8) (hval:Value.okWide P W .any base t v) (h:DataW.Trod enc P W 0 (fun _=>true) true t v d p) (hw:(d.weights P t).all (·≤reachBytes)=true) :
  ∃ (n:Int) (xs:List Int),ah n∧(∀ x∈xs,ah x)∧xs.length≤17592186043904∧Reads (fun b=>b < W.heap.size) W (gp n xs) v:=by
 obtain ⟨cs,rfl,hsz⟩:=okWide_struct ht hval
 obtain ⟨fuel,hf⟩:=h
 obtain ⟨y0,y1,m,hx,hl,h0,h1⟩:=trod_struct2 ht hf
 simp only [Prod.mk.injEq] at hx
 obtain ⟨rfl,rfl⟩:=hx
 subst hf0 hf1
 simp only [DataW.weights,ht,List.map_cons,List.map_nil,DataW.weightsEach,List.append_nil,List.all_append,Bool.and_eq_true] at hw
 rw [ho0,hc,List.drop_zero] at h0
 rw [ho1,hcl] at h1
 obtain ⟨n,hcs0,_,hwf⟩:=DataW.trod_int hti h0
 obtain ⟨xs,v1,hcs1,g1,g2,g3⟩:=ub htl hti hc hby h1 hw.2
 rw [hct] at hsz hl
 simp only [Value.cells] at hcs0 hcs1 hl
 simp [Lit.wf,IntKind.min,IntKind.max,IntKind.signed,IntKind.bits] at hwf
 have c0:cs.toList[0]? = some (.int .i64 n):=by
  have:=congrArg (fun l=>l[0]?) hcs0
  simpa using this
 have c1:cs.toList[1]? = some v1:=by
  have:=congrArg (fun l=>l[0]?) hcs1
  simpa using this
 have hc0:cs.getD 0 undef = .int .i64 n:=by
  rw [Array.getElem?_toList] at c0
  rw [Array.getD_eq_getD_getElem?,c0]; rfl
 have hc1:cs.getD 1 undef=v1:=by
  rw [Array.getElem?_toList] at c1
  rw [Array.getD_eq_getD_getElem?,c1]; rfl
 refine ⟨n,xs,⟨by omega,by omega⟩,g1,g2,.agg _ _ (by rw [hsz]; rfl) fun c hc=>?_⟩
 match c,hc with
 | 0,_=>rw [hc0]; exact .int _ _
 | 1,_=>rw [hc1]; exact g3
 | c + 2,hc=>exact absurd hc (by simp)
end
theorem IA (a b:Int):(a == b)=decide (a=b):=rfl
theorem IG (a b:Int):(a != b) = !decide (a=b):=rfl
theorem y8 (a:Int):decide (a=a)=true:=by simp
theorem tY:(!true)=false:=rfl
theorem D4:(!false)=true:=rfl
theorem Ev (b:Bool):(true && b)=b:=rfl
theorem DP (b:Bool):(false && b)=false:=rfl
theorem HX:(#[]:Array Operand).isEmpty=true:=rfl
def Ip:=And.intro @sQ.eq_1
 <| And.intro @sQ.eq_2
 <| And.intro @sQ.eq_3
 <| And.intro @zh.eq_1
 <| And.intro @bw.eq_1
 <| And.intro @bW.eq_1
 <| And.intro @bW.eq_2
 <| And.intro @bW.eq_3
 <| And.intro @bW.eq_4
 <| And.intro @bW.eq_5
 <| And.intro @bW.eq_6
 <| And.intro @bW.eq_7
 <| And.intro @bW.eq_8
 <| And.intro @bW.eq_9
 <| And.intro @bW.eq_10
 <| And.intro @bW.eq_11
 <| And.intro @bW.eq_12
 <| And.intro @bW.eq_13
 <| And.intro @bW.eq_14
 <| And.intro @bW.eq_15
 <| And.intro @bW.eq_16
 <| And.intro @bW.eq_17
 <| And.intro @bW.eq_18
 <| And.intro @bW.eq_19
 <| And.intro @bW.eq_20
 <| And.intro @bW.eq_21
 <| And.intro @bW.eq_22
 <| And.intro @bW.eq_23
 <| And.intro @bW.eq_24
 <| And.intro @bW.eq_25
 <| And.intro @bW.eq_26
 <| And.intro @kb.eq_1
 <| And.intro @sf.eq_1
 <| And.intro @sf.eq_2
 <| And.intro @lv.eq_1
 <| And.intro @xj.eq_1
 <| And.intro @xj.eq_2
 <| And.intro @ik.eq_1
 <| And.intro @fC.eq_1
 <| And.intro @dZ.eq_1
 <| And.intro @dZ.eq_2
 <| And.intro @dZ.eq_3
 <| And.intro @dZ.eq_4
 <| And.intro @dZ.eq_5
 <| And.intro @dZ.eq_6
 <| And.intro @dZ.eq_7
 <| And.intro @dZ.eq_8
 <| And.intro @dZ.eq_9
 <| And.intro @dZ.eq_10
 <| And.intro @dZ.eq_11
 <| And.intro @dZ.eq_12
 <| And.intro @dZ.eq_13
 <| And.intro @dZ.eq_14
 <| And.intro @dZ.eq_15
 <| And.intro @dZ.eq_16
 <| And.intro @dZ.eq_17
 <| And.intro @dZ.eq_18
 <| And.intro @dZ.eq_19
 <| And.intro @dZ.eq_20
 <| And.intro @dZ.eq_21
 <| And.intro @dZ.eq_22
 <| And.intro @dZ.eq_23
 <| And.intro @dZ.eq_24
 <| And.intro @dZ.eq_25
 <| And.intro @bx.eq_1
 <| And.intro @bx.eq_2
 <| And.intro @bx.eq_3
 <| And.intro @bx.eq_4
 <| And.intro @bx.eq_5
 <| And.intro @bx.eq_6
 <| And.intro @bx.eq_7
 <| And.intro @bx.eq_8
 <| And.intro @bx.eq_9
 <| And.intro @bx.eq_10
 <| And.intro @bx.eq_11
 <| And.intro @bx.eq_12
 <| And.intro @bx.eq_13
 <| And.intro @bx.eq_14
 <| And.intro @bx.eq_15
 <| And.intro @bx.eq_16
 <| And.intro @bx.eq_17
 <| And.intro @arith.eq_1
 <| And.intro @arith.eq_2
 <| And.intro @arith.eq_3
 <| And.intro @yb.eq_1
 <| And.intro @yb.eq_2
 <| And.intro @yb.eq_3
 <| And.intro @yb.eq_4
 <| And.intro @yb.eq_5
 <| And.intro @yb.eq_6
 <| And.intro @lr.eq_1
 <| And.intro @lr.eq_2
 <| And.intro @lr.eq_3
 <| And.intro @mD.eq_1
 <| And.intro @mD.eq_2
 <| And.intro @gH.eq_1
 <| And.intro @uu.eq_1
 <| And.intro @iN.eq_1
 <| And.intro @iN.eq_2
 <| And.intro @iN.eq_3
 <| And.intro @j8.eq_1
 <| And.intro @j8.eq_2
 <| And.intro @dV.eq_1
 <| And.intro @kE.eq_1
 <| And.intro @du.eq_1
 <| And.intro @du.eq_2
 <| And.intro @tC.eq_1
 <| And.intro @tC.eq_2
 <| And.intro @rM.eq_1
 <| And.intro @rM.eq_2
 <| And.intro @rM.eq_3
 <| And.intro @rM.eq_4
 <| And.intro @rM.eq_5
 <| And.intro @rM.eq_6
 <| And.intro @ky.eq_1
 <| And.intro @dU.eq_1
 <| And.intro @dU.eq_2
 <| And.intro @dU.eq_3
 <| And.intro @fV.eq_def
 <| And.intro @HX
 <| And.intro @cY.eq_1
 <| And.intro @cY.eq_2
 <| And.intro @cY.eq_3
 <| And.intro @cY.eq_4
 <| And.intro @cY.eq_5
 <| And.intro @gC.eq_1
 <| And.intro @kf.eq_1
 <| And.intro @mC.eq_1
 <| And.intro @mC.eq_2
 <| And.intro @dt.eq_1
 <| And.intro @ji.eq_1
 <| And.intro @ji.eq_2
 <| And.intro @ji.eq_3
 <| And.intro @er.eq_1
 <| And.intro @er.eq_2
 <| And.intro @er.eq_3
 <| And.intro @cH.eq_1
 <| And.intro @cH.eq_2
 <| And.intro @cH.eq_3
 <| And.intro @cH.eq_4
 <| And.intro @cH.eq_5
 <| And.intro @fA.eq_1
 <| And.intro @fA.eq_2
 <| And.intro @AV.cells.eq_1
 <| And.intro @AV.cells.eq_2
 <| And.intro @AV.cells.eq_3
 <| And.intro @AV.isAgg.eq_1
 <| And.intro @AV.isAgg.eq_2
 <| And.intro @AV.isAgg.eq_3
 <| And.intro @eL.eq_1
 <| And.intro @eL.eq_2
 <| And.intro @eL.eq_3
 <| And.intro @oz.eq_1
 <| And.intro @aq.eq_1
 <| And.intro @aq.eq_2
 <| And.intro @aq.eq_3
 <| And.intro @aE.eq_1
 <| And.intro @aE.eq_2
 <| And.intro @aE.eq_3
 <| And.intro @da.eq_1
 <| And.intro @da.eq_2
 <| And.intro @da.eq_3
 <| And.intro @da.eq_4
 <| And.intro @bp.eq_1
 <| And.intro @bp.eq_2
 <| And.intro @bp.eq_3
 <| And.intro @bp.eq_4
 <| And.intro @bp.eq_5
 <| And.intro @bp.eq_6
 <| And.intro @bp.eq_7
 <| And.intro @iy.eq_1
 <| And.intro @iy.eq_2
 <| And.intro @after.eq_1
 <| And.intro @ay.eq_1
 <| And.intro @ay.eq_2
 <| And.intro @St.put.eq_1
 <| And.intro @St.put.eq_2
 <| And.intro @St.get.eq_1
 <| And.intro @lk.eq_1
 <| And.intro @lk.eq_2
 <| And.intro @St.ev.eq_1
 <| And.intro @St.ev.eq_2
 <| And.intro @St.ev.eq_3
 <| And.intro @St.ev.eq_4
 <| And.intro @cv.eq_1
 <| And.intro @cv.eq_2
 <| And.intro @cv.eq_3
 <| And.intro @cv.eq_4
 <| And.intro @cv.eq_5
 <| And.intro @PV.one.eq_1
 <| And.intro @PV.one.eq_2
 <| And.intro @PV.one.eq_3
 <| And.intro @entry.eq_1
 <| And.intro @yk.eq_1
 <| And.intro @yk.eq_2
 <| And.intro @uy.eq_1
 <| And.intro @uy.eq_2
 <| And.intro @uy.eq_3
 <| And.intro @jo.eq_1
 <| And.intro @jo.eq_2
 <| @eH.eq_1
def aI:=And.intro @Bool.not_eq_true'
 <| And.intro @Bool.not_eq_false'
 <| And.intro @Bool.not_eq_true
 <| And.intro @Bool.not_eq_false
 <| And.intro @Bool.and_eq_true
 <| And.intro @Bool.and_eq_false_iff
 <| And.intro @Bool.or_eq_true
 <| And.intro @Bool.or_eq_false_iff
 <| And.intro @decide_eq_true_eq
 <| And.intro @decide_eq_false_iff_not
 <| @Decidable.not_not
def leq:=And.intro @AV.p.injEq
 <| And.intro @AV.sl.injEq
 <| And.intro @AV.ptr.injEq
 <| And.intro @aL.own.injEq
 <| And.intro @PV.int.injEq
 <| And.intro @PV.bool.injEq
 <| And.intro @PV.list.injEq
 <| And.intro @Nat.sub_zero
 <| And.intro @Int.natCast_add
 <| And.intro @List.length_append.{0}
 <| And.intro @pz
 <| And.intro @xL
 <| And.intro @xa
 <| And.intro @List.nodup_cons.{0}
 <| And.intro @List.nodup_nil.{0}
 <| And.intro @List.mem_cons.{0}
 <| And.intro @List.not_mem_nil.{0}
 <| And.intro @or_false
 <| @not_false_eq_true
def bh:=And.intro @Le.eq_1
 <| And.intro @kp.eq_1
 <| And.intro @kp.eq_2
 <| And.intro @kp.eq_3
 <| And.intro @jY.eq_1
 <| And.intro @jY.eq_2
 <| And.intro @jT.eq_1
 <| And.intro @jT.eq_2
 <| And.intro @jT.eq_3
 <| And.intro @jT.eq_4
 <| And.intro @jT.eq_5
 <| And.intro @jT.eq_6
 <| And.intro @bl.eq_1
 <| And.intro @bl.eq_2
 <| And.intro @bl.eq_3
 <| And.intro @bl.eq_4
 <| And.intro @bl.eq_5
 <| And.intro @bu.eq_1
 <| And.intro @bu.eq_2
 <| And.intro @bu.eq_3
 <| And.intro @bu.eq_4
 <| And.intro @bu.eq_5
 <| And.intro @bb.eq_1
 <| And.intro @bb.eq_2
 <| And.intro @bb.eq_3
 <| And.intro @bb.eq_4
 <| And.intro @bb.eq_5
 <| And.intro @br.eq_1
 <| And.intro @br.eq_2
 <| And.intro @br.eq_3
 <| And.intro @br.eq_4
 <| And.intro @br.eq_5
 <| And.intro @br.eq_6
 <| And.intro @br.eq_7
 <| And.intro @br.eq_8
 <| @br.eq_9
def cy:=And.intro @Cm.eq_1
 <| And.intro @Cm.eq_2
 <| And.intro @Cm.eq_3
 <| And.intro @zn.eq_1
 <| And.intro @ml.eq_1
 <| And.intro @ml.eq_2
 <| And.intro @yX.eq_1
 <| And.intro @yX.eq_2
 <| And.intro @je.eq_1
 <| And.intro @je.eq_2
 <| And.intro @r7.eq_1
 <| And.intro @r7.eq_2
 <| And.intro @dK.eq_1
 <| And.intro @dK.eq_2
 <| And.intro @dK.eq_3
 <| And.intro @dB.eq_1
 <| And.intro @dB.eq_2
 <| And.intro @dB.eq_3
 <| And.intro @dB.eq_4
 <| And.intro @cq.eq_1
 <| And.intro @cq.eq_2
 <| And.intro @PV.norm.eq_1
 <| And.intro @PV.norm.eq_2
 <| And.intro @PV.pW.eq_1
 <| And.intro @PV.pW.eq_2
 <| And.intro @PV.mO.eq_1
 <| And.intro @PV.mO.eq_2
 <| And.intro @PV.mO.eq_3
 <| And.intro @PV.mO.eq_4
 <| And.intro @PV.list.injEq
 <| And.intro @PV.tup.injEq
 <| And.intro @PV.agg.injEq
 <| And.intro @PV.int.injEq
 <| And.intro @PV.bool.injEq
 <| @List.cons.injEq.{0}
def IH:=And.intro @IA
 <| And.intro @IG
 <| And.intro @y8
 <| And.intro @tY
 <| And.intro @D4
 <| And.intro @Ev
 <| And.intro @DP
 <| And.intro @Int.cast_ofNat_Int
 <| And.intro @decide_true
 <| And.intro @decide_false
 <| And.intro @beq_self_eq_true.{0}
 <| And.intro @bne_self_eq_false.{0}
 <| And.intro @ite_true.{1}
 <| And.intro @ite_false.{1}
 <| And.intro @if_true.{1}
 <| @if_false.{1}
open Go.RowKit
section
variable {P:Program} {T:TypeId→Option TI} {C:Ctx} {m:Map} {s:St} {tmps:Array Value} {w:World} {Q:Exit→St→Prop}
theorem Rel.cells (R:Rel C m s tmps w) {k:Nat} {c c' : List AV} (hk:aq s.H k = .own c) (hl:c'.length=c.length)
  (hc:∀ j (h:j < c.length) (h' : j < c'.length) v,aH (Reads (OK C m s.H w) w) m s.H c[j] v→aH (Reads (OK C m s.H w) w) m s.H c'[j] v):Rel C m { s with H:=aE s.H k (.own c') } tmps w:=by
 have hk:=bj hk
 have hkl:k < s.H.length:=(List.getElem?_eq_some_iff.1 hk).1
 have aq:∀ (j:Nat) (b:aL),(aE s.H k (.own c'))[j]? = some b→(j=k∧b = .own c')∨(j ≠ k∧s.H[j]? = some b):=by
  intro j b h
  rw [cr] at h
  by_cases e:j=k
  ·rw [if_pos ⟨e,hkl⟩] at h; exact .inl ⟨e,(Option.some.inj h).symm⟩
  rw [if_neg (by simp [e])] at h; exact .inr ⟨e,h⟩
 have own:∀ (j:Nat) (d:List AV),(aE s.H k (.own c'))[j]? = some (.own d)→∃ d',s.H[j]? = some (.own d'):=by
  intro j d h
  rcases aq j _ h with ⟨rfl,h⟩ | h
  ·exact ⟨c,hk⟩
  exact ⟨d,h.2⟩
 have hok:∀ b,OK C m s.H w b→∀ j d l,(aE s.H k (.own c'))[j]? = some (.own d)→m j=some l→l.g ≠ b:=fun b hb j d l h hl=>by
  obtain ⟨d',h'⟩:=own j d h
  exact hb.2.2 j d' l h' hl
 have ho:∀ b,OK C m s.H w b→OK C m (aE s.H k (.own c')) w b:=fun b h=>⟨h.1,h.2.1,hok b h⟩
 refine R.heap (bZ.refl _ _) (by simp [aB]) (fun _ _=>rfl) hok (fun _ _=>rfl) ?_ ?_ ?_ (lB rfl)
 ·intro j j' c1 c2 l1 l2 h1 h2 h3 h4 h5
  obtain ⟨d1,g1⟩:=own j c1 h1
  obtain ⟨d2,g2⟩:=own j' c2 h2
  exact R.inj j j' d1 d2 l1 l2 g1 g2 h3 h4 h5
 ·intro j d h
  rcases aq j _ h with ⟨rfl,h'⟩ | ⟨hne,h⟩
  ·cases h'
   rcases R.blk j c hk with ⟨hc0,hn⟩ | ⟨l,cur,e,hl2,hB,hg,h1,h2,h3,hcells⟩
   ·subst hc0
    exact .inl ⟨List.eq_nil_of_length_eq_zero (by simpa using hl),hn⟩
   refine .inr ⟨l,cur,e,hl2,hB,hg,h1,h2,by omega,fun i hi=>?_⟩
   exact (hc i (by omega) hi _ (hcells i (by omega))).ext (fun p v h=>h.ext ho fun _ _=>rfl) (by simp [aB]) fun _ _=>rfl
  exact (R.blk j d h).ext (fun p v h=>h.ext ho fun _ _=>rfl) (by simp [aB]) (fun _ _=>rfl) rfl fun _ _=>rfl
 intro j d h
 rcases aq j _ h with ⟨rfl,h'⟩ | ⟨hne,h⟩
 ·cases h'
 exact (R.fro j d h).ext ho (fun _ _=>rfl) rfl
theorem Af {c:Code} (k:Nat) {b b' : List AV} (hk:aq s.H k = .own b) (hl:b'.length=b.length)
  (hc:∀ C m tmps w,Rel C m s tmps w→∀ j (h:j < b.length) (h' : j < b'.length) v,aH (Reads (OK C m s.H w) w) m s.H b[j] v→aH (Reads (OK C m s.H w) w) m s.H b'[j] v)
  (h:Holds P c Q { s with H:=aE s.H k (.own b') }):Holds P c Q s:=
 fun r ds C m a w R hd=>h r ds C m a w (R.cells hk hl (hc C m a.tmps w R)) hd
theorem za {c:Code} (k j:Nat) {b:List AV} (hk:aq s.H k = .own b) (hj:b[j]? = some (.p .nil)) (h:Holds P c Q { s with H:=aE (s.H++[.own []]) k (.own (b.set j (.sl s.H.length 0 0))) }):Holds P c Q s:=by
 intro r ds C m a w R hd
 have R':=R.qM
 have hk' : aq (s.H++[.own []]) k = .own b:=by
  have h1:=bj hk
  have key:∀ (H:aw) (k:Nat) (b:aL) (H2:aw),H[k]? = some b→aq (H++H2) k=b:=by
   intro H
   induction H with
   | nil=>intro k b H2 h; simp at h
   | cons x r ih =>
    intro k b H2 h
    cases k with
    | zero=>simp at h; exact h
    | succ k=>exact ih k b H2 (by simpa using h)
  exact key _ _ _ _ h1
 refine h r ds C _ a w (R'.cells (s:={ s with H:=s.H++[.own []] }) hk' (by simp) fun i hi hi' v hv=>?_) hd
 by_cases e:j=i
 ·subst e
  rw [List.getElem_set_self]
  have hb:b[j] = .p .nil:=by
   rw [List.getElem?_eq_getElem hi] at hj
   exact Option.some.inj hj
  rw [hb] at hv
  have:=hv.aQ.eP
  subst this
  exact .sl _ _ _ _ (by simp) <| .inl ⟨rfl,none,rfl⟩
 rw [List.getElem_set_ne e]
 exact hv
theorem n8 {c:Code} (k j:Nat) {b:List AV} {x:AV} (hk:aq s.H k = .own b) (hj:b[j]? = some x) {p:Prop} {pv:PV} (hx:dB s.H x=some (p,pv,true)) (hp:p)
  (h:Holds P c Q { s with H:=aE s.H k (.own (b.set j (.p pv))) }):Holds P c Q s:=by
 refine Af k hk (by simp) (fun C m tmps w R i hi hi' v hv=>?_) h
 by_cases e:j=i
 ·subst e
  rw [List.getElem_set_self]
  have hb:b[j]=x:=by
   rw [List.getElem?_eq_getElem hi] at hj
   exact Option.some.inj hj
  rw [hb] at hv
  exact .p _ _ ((jC R hv hx hp).2 rfl)
 rw [List.getElem_set_ne e]
 exact hv
end
def bE (l:List PV):List AV:=l.map .p
theorem bB (l:List PV):(bE l).length=l.length:=by simp [bE]
theorem AZ (l:List PV) (n:Nat):(bE l).take n=bE (l.take n):=by simp [bE]
theorem Ah (l:List PV) (n:Nat):(bE l).drop n=bE (l.drop n):=by simp [bE]
theorem uc (l r:List PV):bE l++bE r=bE (l++r):=by simp [bE]
theorem kQ (l:List PV) (x:PV):bE l++[.p x]=bE (l++[x]):=by simp [bE]
theorem kT (l:List PV) (π:List Nat):(bE l).map (Go.Pv.bl π)=bE l:=by simp [bE,Go.Pv.bl,bu]
theorem lX (l:List PV) (n:Nat):(bE l).all (bb n)=true:=by simp [bE,bb,br]
theorem jv (l:List PV):eL (bE l)=some l:=by
 unfold bE
 induction l with
 | nil=>rfl
 | cons x r ih=>simp [eL,ih]
theorem uF {l:List PV} (h:l.all PV.one=true):(bE l).all bp=true:=by
 unfold bE
 rw [List.all_map]
 exact h
theorem oB (r:List (List Int)):(bE (ll r)).all bp=true:=uF (js r)
theorem cB (r:List (List Int)) (x:List Int):ll r++[.list (il x)]=ll (r++[x]):=by simp [ll]
def Iw:=And.intro @bB
 <| And.intro @AZ
 <| And.intro @Ah
 <| And.intro @uc
 <| And.intro @kQ
 <| And.intro @kT
 <| And.intro @lX
 <| And.intro @jv
 <| And.intro @oB
 <| And.intro @cB
 <| And.intro @au
 <| And.intro @js
 <| @tF
def ak := And.intro Iy <| And.intro Ip <| And.intro IH Iw
theorem fZ:∀ (H:aw) (k:Nat) (b:aL),k < H.length→aq (aE H k b) k=b
 | [],k,b,h=>by simp at h
 | x :: r,0,b,h=>rfl
 | x :: r,k + 1,b,h=>fZ r k b (by simpa using h)
theorem oC {P:Program} {s:St} {c:Code} {Q:Exit→St→Prop} (t k:Nat) {l:List PV} (hone:l.all PV.one=true) (h1:s.get t = .sl k 0 l.length) (h2:aq s.H k = .own (bE l)) (h:Holds P c Q { s with sl:=(t,.p (.list l)) :: s.sl,H:=aE s.H k (.fro l) }):Holds P c Q s:=by
 refine cJ k h2 (jv l) (lj (s:={ s with H:=aE s.H k (.fro l) }) t (p:=0 + l.length≤l.length∧((l.drop 0).take l.length).all PV.one=true) (pv:=.list ((l.drop 0).take l.length)) ?_ ?_ ?_)
 ·have e:({ s with H:=aE s.H k (.fro l) } : St).get t = .sl k 0 l.length:=h1
  rw [e]
  have hk:=bj h2
  have hkl:k < s.H.length:=(List.getElem?_eq_some_iff.1 hk).1
  simp only [dK,dB,fZ _ _ _ hkl]
 ·simp only [List.drop_zero,gi]
  exact ⟨by omega,hone⟩
 simp only [List.drop_zero,gi]
 exact h
open Go.RowKit
inductive bm (κ:Nat):AV→Prop
 | dead:bm κ .dead
 | p (v:PV):bm κ (.p v)
 | sl (k lo len:Nat) (h:k ≠ κ):bm κ (.sl k lo len)
 | ptr (k i:Nat) (h:k ≠ κ):bm κ (.ptr k i)
 | mptr (k:Nat) (h:k ≠ κ):bm κ (.mptr k)
 | yv (k:Nat) (l:List AV) (vs:Array Value) (h:k ≠ κ) (h2:∀ c (h:c < l.length),bm κ l[c]):bm κ (.yv k l vs)
 | agg (l:List AV) (h:∀ c (h:c < l.length),bm κ l[c]):bm κ (.agg l)
 | tup (l:List AV) (h:∀ c (h:c < l.length),bm κ l[c]):bm κ (.tup l)
 | cl (f:FuncId) (l:List AV) (h:∀ c (h:c < l.length),bm κ l[c]):bm κ (.cl f l)
 | lJ (r:Nat):bm κ (.lJ r)
 | sls (k lo len sz:Nat) (h:k ≠ κ):bm κ (.sls k lo len sz)
def vG (κ:Nat):AV→Bool
 | .sl k _ _=>k != κ
 | .sls k _ _ _=>k != κ
 | .ptr k _=>k != κ
 | .mptr k=>k != κ
 | .agg _=>false
 | .tup _=>false
 | .cl _ _=>false
 | .yv _ _ _=>false
 | _=>true
def Hs (κ:Nat):AV→Bool
 | .agg l=>l.all (vG κ)
 | .tup l=>l.all (vG κ)
 | .cl _ l=>l.all (vG κ)
 | .yv k l _=>(k != κ) && l.all (vG κ)
 | x=>vG κ x
theorem eW {κ:Nat} {x:AV} (h:vG κ x=true):bm κ x:=by
 cases x with
 | dead=>exact .dead
 | p v=>exact .p v
 | sl k lo len=>exact .sl _ _ _ (by simpa [vG] using h)
 | ptr k i=>exact .ptr _ _ (by simpa [vG] using h)
 | mptr k=>exact .mptr _ (by simpa [vG] using h)
 | yv k l vs=>simp [vG] at h
 | agg l=>simp [vG] at h
 | tup l=>simp [vG] at h
 | cl f l=>simp [vG] at h
 | lJ r=>exact .lJ r
 | sls k lo len sz=>exact .sls _ _ _ _ (by simpa [vG] using h)
theorem rV {κ:Nat} {x:AV} (h:Hs κ x=true):bm κ x:=by
 cases x with
 | agg l=>exact .agg l fun c hc=>eW ((List.all_eq_true.1 h) _ (List.getElem_mem hc))
 | tup l=>exact .tup l fun c hc=>eW ((List.all_eq_true.1 h) _ (List.getElem_mem hc))
 | cl f l=>exact .cl f l fun c hc=>eW ((List.all_eq_true.1 h) _ (List.getElem_mem hc))
 | dead=>exact .dead
 | p v=>exact .p v
 | sl k lo len=>exact eW h
 | ptr k i=>exact eW h
 | mptr k=>exact eW h
 | yv k l vs =>
  simp only [Hs,Bool.and_eq_true,bne_iff_ne] at h
  exact .yv _ _ _ h.1 fun c hc=>eW ((List.all_eq_true.1 h.2) _ (List.getElem_mem hc))
 | lJ r=>exact .lJ r
 | sls k lo len sz=>exact eW h
theorem aH.sj {rd:PV→Value→Prop} {m:Map} {H:aw} {x:AV} {v:Value} (h:aH rd m H x v) {κ:Nat} (hk:H.length≤κ):bm κ x:=by
 induction h with
 | dead v=>exact .dead
 | p pv v h=>exact .p pv
 | sl k lo len v hk' h=>exact .sl _ _ _ (by omega)
 | ptr k i v hk' h=>exact .ptr _ _ (by omega)
 | mptr k v hk' h=>exact .mptr _ (by omega)
 | yv k l vs v hk' h hl hr ih=>exact .yv _ _ _ (by omega) ih
 | agg l vs hl hr ih=>exact .agg l ih
 | tup l vs hl hr ih=>exact .tup l ih
 | cl f l vs hl hr ih=>exact .cl f l ih
 | lJ r=>exact .lJ r
 | sls k lo len sz v hk' h=>exact .sls _ _ _ _ (by omega)
theorem aH.EC {rd rd' : PV→Value→Prop} {m m' : Map} {H H' : aw} {κ L:Nat} (h1:∀ p v,rd p v→rd' p v) (h2:∀ k,k ≠ κ→k ≠ L→k < H.length→m' k=m k∧k < H'.length) {a:AV} {v:Value} (h:aH rd m H a v) (hk:bm κ a) (hL:bm L a):aH rd' m' H' a v:=by
 induction h with
 | dead v=>exact .dead v
 | p pv v h=>exact .p pv v (h1 _ _ h)
 | sl k lo len v hk' h =>
  cases hk with
  | sl _ _ _ e1 =>
  cases hL with
  | sl _ _ _ e2 =>
  obtain ⟨e3,e4⟩:=h2 k e1 e2 hk'
  refine .sl k lo len v e4 ?_
  rcases h with h | ⟨l,cap,h,r⟩
  ·exact .inl h
  exact .inr ⟨l,cap,by rw [e3]; exact h,r⟩
 | mptr k v hk' h =>
  cases hk with
  | mptr _ e1 =>
  cases hL with
  | mptr _ e2 =>
  obtain ⟨e3,e4⟩:=h2 k e1 e2 hk'
  refine .mptr k v e4 ?_
  obtain ⟨l,h,r⟩:=h
  exact ⟨l,by rw [e3]; exact h,r⟩
 | yv k l vs v hk' h hl hr ih =>
  cases hk with
  | yv _ _ _ e1 f1 =>
  cases hL with
  | yv _ _ _ e2 f2 =>
  obtain ⟨e3,e4⟩:=h2 k e1 e2 hk'
  refine .yv k l vs v e4 ?_ hl fun c hc=>ih c hc (f1 c hc) (f2 c hc)
  obtain ⟨l,h,r⟩:=h
  exact ⟨l,by rw [e3]; exact h,r⟩
 | ptr k i v hk' h =>
  cases hk with
  | ptr _ _ e1 =>
  cases hL with
  | ptr _ _ e2 =>
  obtain ⟨e3,e4⟩:=h2 k e1 e2 hk'
  refine .ptr k i v e4 ?_
  obtain ⟨l,h,r⟩:=h
  exact ⟨l,by rw [e3]; exact h,r⟩
 | agg l vs hl hr ih =>
  cases hk with
  | agg _ e1 =>
  cases hL with
  | agg _ e2=>exact .agg l vs hl fun c hc=>ih c hc (e1 c hc) (e2 c hc)
 | tup l vs hl hr ih =>
  cases hk with
  | tup _ e1 =>
  cases hL with
  | tup _ e2=>exact .tup l vs hl fun c hc=>ih c hc (e1 c hc) (e2 c hc)
 | cl f l vs hl hr ih =>
  cases hk with
  | cl _ _ e1 =>
  cases hL with
  | cl _ _ e2=>exact .cl f l vs hl fun c hc=>ih c hc (e1 c hc) (e2 c hc)
 | lJ r=>exact .lJ r
 | sls k lo len sz v hk' h =>
  cases hk with
  | sls _ _ _ _ e1 =>
  cases hL with
  | sls _ _ _ _ e2 =>
  obtain ⟨e3,e4⟩:=h2 k e1 e2 hk'
  refine .sls k lo len sz v e4 ?_
  rcases h with h | ⟨l,cap,h,r⟩
  ·exact .inl h
  exact .inr ⟨l,cap,by rw [e3]; exact h,r⟩
section
variable {P:Program} {T:TypeId→Option TI} {C:Ctx} {m:Map} {s:St} {tmps:Array Value} {w:World}
theorem aT:∀ (H:aw) (k j:Nat) (b:aL),aq (aE H k b) j=if j=k∧k < H.length then b else aq H j
 | [],k,j,b=>by simp [aE]
 | x :: r,0,0,b=>by simp [aE,aq]
 | x :: r,0,j + 1,b=>by simp [aE,aq]
 | x :: r,k + 1,0,b=>by simp [aE,aq]
 | x :: r,k + 1,j + 1,b=>by simp [aE,aq,aT r k j b]
theorem jq:∀ {H H' : aw},H.length=H'.length→(∀ j,aq H j=aq H' j)→H=H'
 | [],[],_,_=>rfl
 | x :: r,y :: t,hl,h=>by
  have h0:=h 0
  simp only [aq] at h0
  rw [h0,jq (H:=r) (H':=t) (by simpa using hl) fun j=>by simpa [aq] using h (j + 1)]
 | [],_ :: _,hl,_=>by simp at hl
 | _ :: _,[],hl,_=>by simp at hl
theorem aF:∀ {H H2:aw} {j:Nat},j < H.length→aq (H++H2) j=aq H j
 | x :: r,H2,0,_=>rfl
 | x :: r,H2,j + 1,h=>by simpa [aq] using aF (H:=r) (H2:=H2) (j:=j) (by simpa using h)
 | [],H2,j,h=>by simp at h
theorem aY:∀ {H H2:aw} {j:Nat},H.length≤j→aq (H++H2) j=aq H2 (j - H.length)
 | [],H2,j,_=>by simp
 | x :: r,H2,0,h=>by simp at h
 | x :: r,H2,j + 1,h=>by
  simp only [List.cons_append,aq,List.length_cons]
  rw [aY (H:=r) (by simpa using h)]
  congr 1; omega
theorem ln:∀ (n j:Nat),aq (List.replicate n aL.dead) j = .dead
 | 0,j=>rfl
 | n + 1,0=>rfl
 | n + 1,j + 1=>by simpa [List.replicate_succ,aq] using ln n j
theorem Rel.pad (R:Rel C m s tmps w) (n:Nat):Rel C m { s with H:=s.H++List.replicate n .dead } tmps w:=by
 have hg:∀ (k:Nat) (b:aL),(s.H++List.replicate n .dead)[k]? = some b→b ≠ .dead→s.H[k]? = some b:=by
  intro k b h hb
  by_cases hk:k < s.H.length
  ·rwa [List.getElem?_append_left hk] at h
  rw [List.getElem?_append_right (by omega),List.getElem?_replicate] at h
  split at h
  ·cases h; exact absurd rfl hb
  cases h
 have hok:∀ b,OK C m s.H w b→∀ k c l,(s.H++List.replicate n .dead)[k]? = some (.own c)→m k=some l→l.g ≠ b:=fun b hb k c l h hl=>hb.2.2 k c l (hg k _ h (by simp)) hl
 have ho:∀ b,OK C m s.H w b→OK C m (s.H++List.replicate n .dead) w b:=fun b h=>⟨h.1,h.2.1,hok b h⟩
 refine R.heap (bZ.refl _ _) (by simp) (fun _ _=>rfl) hok (fun _ _=>rfl) ?_ ?_ ?_ (fun k b hb h=>hg k _ h (by intro e; subst e; cases hb))
 ·exact fun k k' c c' l l' h1 h2 h3 h4 h5=>R.inj k k' c c' l l' (hg k _ h1 (by simp)) (hg k' _ h2 (by simp)) h3 h4 h5
 ·exact fun k c h=>(R.blk k c (hg k _ h (by simp))).ext (fun p v h=>h.ext ho fun _ _=>rfl) (by simp) (fun _ _=>rfl) rfl fun _ _=>rfl
 exact fun k c h=>(R.fro k c (hg k _ h (by simp))).ext ho (fun _ _=>rfl) rfl
theorem Rel.move {m' : Map} {b:aL} {w' : World} {κ:Nat} (R:Rel C m s tmps w) (R' : Rel C m' { s with H:=s.H++[b] } tmps w') (hκ:s.H[κ]? = some .dead) (ha:∀ (k i j:Nat),s.H[k]? = some (aL.dx i j)→j ≠ κ) (ha2:∀ i j,b ≠ aL.dx i j)
  (hn:∀ t,bm κ (s.get t)) (hc:∀ (k:Nat) (c:List AV),s.H[k]? = some (aL.own c)→∀ (j:Nat) (h:j < c.length),bm κ c[j]) (hb:∀ (c:List AV),b=aL.own c→∀ (j:Nat) (h:j < c.length),bm κ c[j]∧bm s.H.length c[j]) :
  Rel C (bJ m' κ (m' s.H.length)) { s with H:=aE s.H κ b } tmps w'∧(∀ i v,aH (Reads (OK C m' (s.H++[b]) w') w') m' (s.H++[b]) (.ptr s.H.length i) v→aH (Reads (OK C (bJ m' κ (m' s.H.length)) (aE s.H κ b) w') w') (bJ m' κ (m' s.H.length)) (aE s.H κ b) (.ptr κ i) v) ∧
   (∀ lo len v,aH (Reads (OK C m' (s.H++[b]) w') w') m' (s.H++[b]) (.sl s.H.length lo len) v→aH (Reads (OK C (bJ m' κ (m' s.H.length)) (aE s.H κ b) w') w') (bJ m' κ (m' s.H.length)) (aE s.H κ b) (.sl κ lo len) v):=by
 have hκl:κ < s.H.length:=(List.getElem?_eq_some_iff.1 hκ).1
 have hml:∀ k,k ≠ κ→bJ m' κ (m' s.H.length) k=m' k:=fun k hk=>by simp [bJ,hk]
 have hmk:bJ m' κ (m' s.H.length) κ=m' s.H.length:=by simp [bJ]
 have hgl:(s.H++[b])[s.H.length]? = some b:=by simp
 have hg:∀ (k:Nat) (d:aL),(aE s.H κ b)[k]? = some d→(k=κ∧d=b)∨(k ≠ κ∧s.H[k]? = some d∧(s.H++[b])[k]? = some d):=by
  intro k d h
  rw [cr] at h
  by_cases e:k=κ
  ·rw [if_pos ⟨e,hκl⟩] at h; exact .inl ⟨e,(Option.some.inj h).symm⟩
  rw [if_neg (by simp [e])] at h
  exact .inr ⟨e,h,by rw [List.getElem?_append_left (List.getElem?_eq_some_iff.1 h).1]; exact h⟩
 have hok:∀ x,OK C m' (s.H++[b]) w' x→OK C (bJ m' κ (m' s.H.length)) (aE s.H κ b) w' x:=by
  refine fun x hx=>⟨hx.1,hx.2.1,fun k c l h hl=>?_⟩
  rcases hg k _ h with ⟨rfl,e⟩ | ⟨hne,_,h2⟩
  ·rw [hmk] at hl
   exact hx.2.2 _ c l (by rw [hgl,e]) hl
  rw [hml k hne] at hl
  exact hx.2.2 k c l h2 hl
 have hrd:∀ p v,Reads (OK C m' (s.H++[b]) w') w' p v→Reads (OK C (bJ m' κ (m' s.H.length)) (aE s.H κ b) w') w' p v:=fun p v h=>h.mono hok
 have hmv:∀ k,k ≠ κ→k ≠ s.H.length→k < (s.H++[b]).length→bJ m' κ (m' s.H.length) k=m' k∧k < (aE s.H κ b).length:=by
  intro k h1 h2 h3
  refine ⟨hml k h1,?_⟩
  rw [aB]; simp at h3; omega
 have mps:∀ (k:Nat) (kk:IntKind) (d:Int→Bool) (v:Int→PV),(aE s.H κ b)[k]? = some (aL.mp kk d v)→∃ j,(s.H++[b])[j]? = some (aL.mp kk d v)∧bJ m' κ (m' s.H.length) k=m' j∧(k=κ∧j=s.H.length∨k ≠ κ∧j=k∧k < s.H.length):=by
  intro k kk d v h
  rcases hg k _ h with ⟨rfl,e⟩ | ⟨hne,h1,h2⟩
  ·exact ⟨s.H.length,by rw [hgl,e],hmk,.inl ⟨rfl,rfl⟩⟩
  exact ⟨k,h2,hml k hne,.inr ⟨hne,rfl,(List.getElem?_eq_some_iff.1 h1).1⟩⟩
 refine ⟨⟨R'.laid.ext hrd,R'.below,R'.base,R'.size,?_,?_,?_,fun t=>?_,fun k kk d v h=>?_,fun k k' kk d v kk' d' v' l l' h1 h2 h3 h4 h5=>?_,fun k i j h=>?_,?_⟩,fun i v hv=>?_,fun lo len v hv=>?_⟩
 rotate_left 7
 ·have lps:∀ (k:Nat) (r:Loop),(aE s.H κ b)[k]? = some (aL.lp r)→∃ j,(s.H++[b])[j]? = some (aL.lp r)∧bJ m' κ (m' s.H.length) k=m' j∧j=(if k=κ then s.H.length else k)∧k < s.H.length:=by
   intro k r h
   rcases hg k _ h with ⟨rfl,e⟩ | ⟨hne,h1,h2⟩
   ·exact ⟨s.H.length,by rw [hgl,e],hmk,by simp,hκl⟩
   exact ⟨k,h2,hml k hne,by simp [hne],(List.getElem?_eq_some_iff.1 h1).1⟩
  refine R'.mp.2.2.2.ext (fun k=>if k=κ then s.H.length else k) (fun k r h=>?_) (fun k k' r r' h1 h2 e=>?_) (fun _ _ _ _ _ _=>rfl) fun _ _ _ _ _ h=>h
  ·obtain ⟨j,j1,j2,j3,_⟩:=lps k r h
   simp only [← j3]; exact ⟨j1,j2⟩
  obtain ⟨_,_,_,_,j4⟩:=lps k r h1
  obtain ⟨_,_,_,_,i4⟩:=lps k' r' h2
  split at e<;>split at e<;>omega
 rotate_left 2
 rotate_left 4
 ·obtain ⟨j,j1,j2,_⟩:=mps k kk d v h
  obtain ⟨l,ar,clk,vs,a1,a2,a3,a4,a5,a6,a7⟩:=R'.mp.1 j kk d v j1
  exact ⟨l,ar,clk,vs,by rw [j2]; exact a1,a2,a3,a4,a5,a6,fun z hz=>hrd _ _ (a7 z hz)⟩
 ·obtain ⟨j,j1,j2,j3⟩:=mps _ _ _ _ h1
  obtain ⟨i,i1,i2,i3⟩:=mps _ _ _ _ h2
  rw [j2] at h3; rw [i2] at h4
  have:=R'.mp.2.1 _ _ _ _ _ _ _ _ _ _ j1 i1 h3 h4 h5
  omega
 ·rcases hg k _ h with ⟨rfl,e⟩ | ⟨hne,h1,h2⟩
  ·exact absurd e.symm (ha2 i j)
  obtain ⟨c1,c2⟩:=R'.mp.2.2.1 k i j h2
  have hj:=(R.mp.2.2.1 k i j h1).1
  exact ⟨by rw [aB]; exact hj,by rw [hml j (ha k i j h1)]; exact c2⟩
 rotate_left 2
 ·intro k k' c c' l l' h1 h2 h3 h4 h5
  rcases hg k _ h1 with ⟨rfl,e1⟩ | ⟨n1,g1,f1⟩<;>rcases hg k' _ h2 with ⟨rfl,e2⟩ | ⟨n2,g2,f2⟩
  ·rfl
  ·rw [hmk] at h3; rw [hml k' n2] at h4
   have:=R'.inj _ k' c c' l l' (by rw [hgl,e1]) f2 h3 h4 h5
   have:=(List.getElem?_eq_some_iff.1 g2).1
   omega
  ·rw [hmk] at h4; rw [hml k n1] at h3
   have:=R'.inj k _ c c' l l' f1 (by rw [hgl,e2]) h3 h4 h5
   have:=(List.getElem?_eq_some_iff.1 g1).1
   omega
  rw [hml k n1] at h3; rw [hml k' n2] at h4
  exact R'.inj k k' c c' l l' f1 f2 h3 h4 h5
 ·intro k c h
  rcases hg k _ h with ⟨rfl,e1⟩ | ⟨n1,g1,f1⟩
  ·rcases R'.blk _ c (by rw [hgl,e1]) with ⟨a1,a2⟩ | ⟨l,cur,e,a1,a2,a3,a4,a5,a6,a7⟩
   ·exact .inl ⟨a1,by rw [hmk]; exact a2⟩
   exact .inr ⟨l,cur,e,by rw [hmk]; exact a1,a2,a3,a4,a5,a6,fun j hj=>(a7 j hj).EC hrd hmv (hb c e1.symm j hj).1 (hb c e1.symm j hj).2⟩
  rcases R'.blk k c f1 with ⟨a1,a2⟩ | ⟨l,cur,e,a1,a2,a3,a4,a5,a6,a7⟩
  ·exact .inl ⟨a1,by rw [hml k n1]; exact a2⟩
  refine .inr ⟨l,cur,e,by rw [hml k n1]; exact a1,a2,a3,a4,a5,a6,fun j hj=>(a7 j hj).EC hrd hmv (hc k c g1 j hj) ?_⟩
  rcases R.blk k c g1 with ⟨b1,_⟩ | ⟨l2,cur2,e2,_,_,_,_,_,_,b7⟩
  ·subst b1; simp at hj
  exact (b7 j hj).sj (Nat.le_refl _)
 ·intro k c h
  rcases hg k _ h with ⟨rfl,e1⟩ | ⟨n1,g1,f1⟩
  ·rcases R'.fro _ c (by rw [hgl,e1]) with ⟨a1,a2⟩ | ⟨l,vs,a1,a2,a3,a4⟩
   ·exact .inl ⟨a1,by rw [hmk]; exact a2⟩
   exact .inr ⟨l,vs,by rw [hmk]; exact a1,hok _ a2,a3,fun j hj=>⟨(a4 j hj).1,(a4 j hj).2.mono hok⟩⟩
  exact (R'.fro k c f1).ext hok (fun _ _=>rfl) (hml k n1)
 ·exact (R'.slot t).EC hrd hmv (hn t) ((R.slot t).sj (Nat.le_refl _))
 ·cases hv with
  | ptr _ _ _ hk h =>
   obtain ⟨l,h,r⟩:=h
   exact .ptr _ _ _ (by rw [aB]; exact hκl) ⟨l,by rw [hmk]; exact h,r⟩
 cases hv with
 | sl _ _ _ _ hk h =>
  refine .sl _ _ _ _ (by rw [aB]; exact hκl) ?_
  rcases h with h | ⟨l,cap,h,r⟩
  ·exact .inl h
  exact .inr ⟨l,cap,by rw [hmk]; exact h,r⟩
end
open Go.RowKit
inductive fg where
 | f
 | ld (k:Nat)
 | st (k:Nat)
 | nw (k:Nat)
 | ap (k k' : Nat)
 | ms (l:List (Nat × aL)) 
instance:Inhabited fg:=⟨.f⟩
def fg.mI:fg→Nat→Bool
 | .f,_=>false
 | .ld k,b=>k == b
 | .st k,b=>k == b
 | .nw k,b=>k == b
 | .ap k k',b=>k == b || k' == b
 | .ms l,b=>l.any fun p=>p.1 == b
def fg.lu:fg→Nat→Bool
 | .st k,b=>k == b
 | .nw k,b=>k == b
 | .ap k k',b=>k == b || k' == b
 | .ms l,b=>l.any fun p=>p.1 == b
 | _,_=>false
def fg.mk:fg→Option Nat
 | .nw k=>some k
 | .ap _ k'=>some k'
 | _=>none
def mW:fg→fg→Bool
 | .f,_=>false
 | _,.f=>false
 | .ld _,.ld _=>false
 | .ld a,y=>y.mI a
 | .st a,y=>y.mI a
 | .nw a,y=>y.mI a
 | .ap a a',y=>y.mI a || y.mI a'
 | .ms l,y=>l.any fun p=>y.mI p.1
theorem fg.qF {c:fg} {b:Nat} (h:c.lu b=true):c.mI b=true:=by
 cases c<;>simp_all [fg.lu,fg.mI]
theorem pL {x y:fg} (h:mW x y=false) {b:Nat} (hx:x.mI b=true) (hy:y.mI b=true):(∃ k,x = .ld k)∧∃ k,y = .ld k:=by
 have any_no:∀ {l:List (Nat × aL)} {q:Nat→Bool},(l.any fun p=>q p.1)=false→(l.any fun p=>p.1 == b)=true→q b=false:=by
  intro l q h1 h2
  obtain ⟨p,hp,e⟩:=List.any_eq_true.1 h2
  have e:p.1=b:=by simpa using e
  have:=List.any_eq_false.1 h1 p hp
  rw [e] at this
  simpa using this
 cases x with
 | ms l =>
  exfalso
  cases y with
  | f=>simp [fg.mI] at hy
  | _ =>
   have h':=any_no (q:=fun k=>fg.mI _ k) (by simpa [mW] using h) (by simpa [fg.mI] using hx)
   rw [hy] at h'; cases h'
 | _ =>
  cases y with
  | ms l =>
   exfalso
   simp only [mW,fg.mI,beq_iff_eq,Bool.or_eq_true,Bool.or_eq_false_iff] at h hx hy
   first
    | (cases hx; done)
    | (subst hx; rw [hy] at h; cases h; done)
    | (rcases hx with hx|hx<;>subst hx<;>first|(rw [hy] at h; exact absurd h.1 (by decide))|(rw [hy] at h; exact absurd h.2 (by decide)))
  | _=>first|exact ⟨⟨_,rfl⟩,⟨_,rfl⟩⟩|(exfalso; simp [mW,fg.mI] at h hx hy; done)|(exfalso; simp [mW,fg.mI] at h hx hy; omega)
theorem kd {x y:fg} (h:mW x y=false) (b:Nat):¬ (x.mI b=true∧y.lu b=true)∧¬ (x.lu b=true∧y.mI b=true):=by
 constructor
 ·rintro ⟨h1,h2⟩
  obtain ⟨_,k,e⟩:=pL h h1 (fg.qF h2)
  subst e; cases h2
 rintro ⟨h1,h2⟩
 obtain ⟨⟨k,e⟩,_⟩:=pL h (fg.qF h1) h2
 subst e; cases h1
structure I2 where
 c:fg
 av:AV
 b:aL
 pu:Bool
instance:Inhabited I2:=⟨⟨.f,.dead,.dead,false⟩⟩
def I2.q5 (x:I2):List aL:=
 match x.c with
 | .ms l=>l.map (·.2)
 | _=>[x.b]
def I2.Pu (x:I2):Prop:=x.pu=true→∀ c,aL.own c∈x.q5→∀ (q:Nat) (h:q < c.length) (κ:Nat),bm κ c[q]
def qL:aw→List (Nat × aL)→aw
 | H,[]=>H
 | H,p :: l=>aE (qL H l) p.1 p.2
def Ew (j:Nat):List (Nat × aL)→aL
 | []=>.dead
 | p :: l=>if p.1=j then p.2 else Ew j l
theorem gA:∀ (l:List (Nat × aL)) (H:aw),(qL H l).length=H.length
 | [],H=>rfl
 | p :: l,H=>by rw [qL,aB,gA l H]
theorem mc (H:aw) (j:Nat):∀ l:List (Nat × aL),aq (qL H l) j=if (l.any fun p=>p.1 == j)=true∧j < H.length then Ew j l else aq H j
 | []=>by simp [qL]
 | p :: l=>by
  rw [qL,aT,gA,mc H j l]
  simp only [List.any_cons,Bool.or_eq_true,beq_iff_eq,Ew]
  by_cases h:p.1=j
  ·subst h
   by_cases hl:p.1 < H.length
   ·rw [if_pos ⟨rfl,hl⟩,if_pos ⟨.inl rfl,hl⟩,if_pos rfl]
   rw [if_neg (fun hh=>hl hh.2),if_neg (fun hh=>hl hh.2),if_neg (fun hh=>hl hh.2)]
  rw [if_neg (fun hh=>h hh.1.symm),if_neg h]
  by_cases h2:(l.any fun p=>p.1 == j)=true∧j < H.length
  ·rw [if_pos h2,if_pos ⟨.inr h2.1,h2.2⟩]
  rw [if_neg h2,if_neg (fun hh=>h2 ⟨hh.1.resolve_left h,hh.2⟩)]
theorem wT {j:Nat} : ∀ {l:List (Nat × aL)},Ew j l = .dead∨∃ p∈l,Ew j l=p.2
 | []=>.inl rfl
 | p :: l=>by
  simp only [Ew]
  by_cases h:p.1=j
  ·rw [if_pos h]; exact .inr ⟨p,by simp,rfl⟩
  rw [if_neg h]
  rcases wT (l:=l) with h | ⟨q,hq,e⟩
  ·exact .inl h
  exact .inr ⟨q,by simp [hq],e⟩
def mu (x:I2) (H:aw):aw:=
 match x.c with
 | .ms l=>qL H l
 | .st k=>aE H k x.b
 | .nw k=>aE H k x.b
 | .ap k k'=>aE (aE H k .dead) k' x.b
 | _=>H
def kh (x:I2) (H:aw):aw:=
 match x.c with
 | .ms l=>qL H l
 | .st k=>aE H k x.b
 | .nw _=>H++[x.b]
 | .ap k _=>aE H k .dead++[x.b]
 | _=>H
def wv (x:I2) (j:Nat):aL:=
 match x.c with
 | .ap _ k'=>if k' = j then x.b else .dead
 | .ms l=>Ew j l
 | _=>x.b
theorem wK (x:I2) (j:Nat):wv x j = .dead∨wv x j∈x.q5:=by
 unfold wv I2.q5
 cases x.c with
 | ap k k' =>
  simp only
  split
  ·exact .inr (by simp)
  exact .inl rfl
 | ms l =>
  simp only
  rcases wT (j:=j) (l:=l) with h | ⟨p,hp,e⟩
  ·exact .inl h
  exact .inr (by rw [e]; exact List.mem_map.2 ⟨p,hp,rfl⟩)
 | _=>exact .inr (by simp)
theorem sB (x:I2) (H:aw):(mu x H).length=H.length:=by
 unfold mu; split<;>simp [aB,gA]
theorem pX (x:I2) (H:aw) (j:Nat):aq (mu x H) j=if x.c.lu j=true∧j < H.length then wv x j else aq H j:=by
 obtain ⟨c,av,b,pu⟩:=x
 cases c with
 | f=>simp [mu,fg.lu]
 | ms l=>simp only [mu,wv,fg.lu]; exact mc H j l
 | ld k=>simp [mu,fg.lu]
 | st k =>
  simp only [mu,wv,fg.lu,beq_iff_eq]
  rw [aT]
  by_cases h:j=k
  ·subst h; simp
  rw [if_neg (fun hh=>h hh.1),if_neg (fun hh=>h hh.1.symm)]
 | nw k =>
  simp only [mu,wv,fg.lu,beq_iff_eq]
  rw [aT]
  by_cases h:j=k
  ·subst h; simp
  rw [if_neg (fun hh=>h hh.1),if_neg (fun hh=>h hh.1.symm)]
 | ap k k' =>
  simp only [mu,wv,fg.lu,Bool.or_eq_true,beq_iff_eq]
  rw [aT,aB,aT]
  by_cases h:j=k'
  ·subst h
   by_cases hl:j < H.length
   ·rw [if_pos ⟨rfl,hl⟩,if_pos ⟨.inr rfl,hl⟩,if_pos rfl]
   rw [if_neg (fun hh=>hl hh.2),if_neg (show ¬ (j=k∧k < H.length) from fun hh=>hl (by rw [hh.1]; exact hh.2)),if_neg (show ¬ ((k=j∨j=j)∧j < H.length) from fun hh=>hl hh.2)]
  rw [if_neg (fun hh=>h hh.1)]
  by_cases h2:j=k
  ·subst h2
   simp [Ne.symm h]
  rw [if_neg (fun hh=>h2 hh.1),if_neg (fun hh=>by rcases hh.1 with e | e; exact h2 e.symm; exact h e.symm)]
def sH (P:Program) (o:Oper) (s:St) (x:I2):Prop:=
 match x.c with
 | .ms l=>((∀ p∈l,p.1 < s.H.length)∧∀ p∈l,∀ i j,p.2 ≠ .dx i j)∧∀ s2:St,s2.n=s.n→fx o s s2→(∀ p∈l,p.1 < s2.H.length∧aq s2.H p.1=aq s.H p.1)→fe P o s2 x.av (qL s2.H l)
 | .f=>∀ s2:St,s2.n=s.n→fx o s s2→fe P o s2 x.av s2.H
 | .ld k=>k < s.H.length∧∀ s2:St,s2.n=s.n→fx o s s2→aq s2.H k=aq s.H k→fe P o s2 x.av s2.H
 | .st k=>k < s.H.length∧∀ s2:St,s2.n=s.n→fx o s s2→aq s2.H k=aq s.H k→fe P o s2 x.av (aE s2.H k x.b)
 | .nw k=>k=s.H.length∧∀ s2:St,s2.n=s.n→fx o s s2→s2.H[k]? = some .dead→(∀ t,bm k (s2.get t))→(∀ (j:Nat) (c:List AV),s2.H[j]? = some (aL.own c)→∀ (i:Nat) (h:i < c.length),bm k c[i])→(∀ (b i j:Nat),s2.H[b]? = some (aL.dx i j)→j ≠ k)→fe P o s2 x.av (aE s2.H k x.b)
 | .ap q k=>(q < s.H.length∧k=s.H.length)∧∀ s2:St,s2.n=s.n→fx o s s2→aq s2.H q=aq s.H q→s2.H[k]? = some .dead→(∀ t,bm k (s2.get t))→(∀ (j:Nat) (c:List AV),s2.H[j]? = some (aL.own c)→∀ (i:Nat) (h:i < c.length),bm k c[i])→(∀ (b i j:Nat),s2.H[b]? = some (aL.dx i j)→j ≠ k)→fe P o s2 x.av (aE (aE s2.H q .dead) k x.b)
inductive tu (P:Program) (all:Array Oper):List Oper→List I2→St→St→Prop
 | nil (s:St):tu P all [] [] s s
 | skip {o:Oper} {r:List Oper} {xs:List I2} {s s' : St} (hg:bw all s o=some false) (hd:∀ t,o.dst=some t→t < s.n) (hr:tu P all r xs (s.put o.dst (.p (.tup []))) s'):tu P all (o :: r) (⟨.f,.p (.tup []),.dead,false⟩ :: xs) s s'
 | op {o:Oper} {r:List Oper} {x:I2} {xs:List I2} {s s' : St} (hg:bw all s o=some true) (hd:∀ t,o.dst=some t→t < s.n) (h:sH P o s x) (hp:x.Pu) (hr:tu P all r xs (({ s with H:=kh x s.H } : St).put o.dst x.av) s'):tu P all (o :: r) (x :: xs) s s'
section
variable {P:Program} {ops:Array Oper} {I:Nat→I2} {s:St}
def cS (ops:Array Oper) (I:Nat→I2) (s:St):Nat→St
 | 0=>s
 | k + 1=>({ cS ops I s k with H:=kh (I k) (cS ops I s k).H } : St).put (bL ops k).dst (I k).av
structure C9 (P:Program) (ops:Array Oper) (I:Nat→I2) (s:St) (j:Nat) (o:Oper):Prop where
 pu:(I j).Pu
 dst:∀ t,o.dst=some t→t < s.n
 how:(bw ops (cS ops I s j) o=some false∧I j=⟨.f,.p (.tup []),.dead,false⟩)∨(bw ops (cS ops I s j) o=some true∧sH P o (cS ops I s j) (I j))
theorem Bq:∀ k,(cS ops I s k).n=s.n
 | 0=>rfl
 | k + 1=>by simp only [cS]; rw [St.jZ]; exact Bq k
theorem uO {s' : St} : ∀ (l:List Oper) (xs:List I2) (k:Nat),(∀ i,l[i]? = ops[k + i]?)→(∀ i x,xs[i]? = some x→I (k + i)=x)→k + l.length=ops.size →
  tu P ops l xs (cS ops I s k) s'→(∀ i o,k≤i→ops[i]? = some o→C9 P ops I s i o)∧s' = cS ops I s ops.size
 | [],xs,k,hl,hx,hk,hr=>by
  cases hr
  simp at hk
  subst hk
  refine ⟨fun i o hi ho=>?_,rfl⟩
  have:=(Array.getElem?_eq_some_iff.1 ho).1
  omega
 | o :: r,xs,k,hl,hx,hk,hr=>by
  have ho:ops[k]? = some o:=by have:=hl 0; simpa using this.symm
  have hod:bL ops k=o:=eN ho
  have hl' : ∀ i,r[i]? = ops[k + 1 + i]?:=fun i=>by have:=hl (i + 1); simp only [List.getElem?_cons_succ] at this; rw [this]; congr 1; omega
  have hn:=Bq (ops:=ops) (I:=I) (s:=s) k
  cases hr with
  | skip hg hd hr =>
   rename_i xs
   have hIk:I k=⟨.f,.p (.tup []),.dead,false⟩:=by have:=hx 0 _ rfl; simpa using this
   have e:cS ops I s (k + 1)=(cS ops I s k).put o.dst (.p (.tup [])):=by simp only [cS]; rw [hIk,hod]; rfl
   rw [← e] at hr
   obtain ⟨g1,g2⟩:=uO r xs (k + 1) hl' (fun i x h=>by have:=hx (i + 1) x (by simpa using h); rw [← this]; congr 1; omega) (by simp at hk; omega) hr
   refine ⟨fun i o' hi ho'=>?_,g2⟩
   by_cases hik:i=k
   ·subst hik
    rw [ho] at ho'; cases ho'
    exact ⟨by rw [hIk]; intro h; (cases h),fun t ht=>by rw [← hn]; exact hd t ht,.inl ⟨hg,hIk⟩⟩
   exact g1 i o' (by omega) ho'
  | op hg hd h hpu hr =>
   rename_i x xs
   have hIk:I k=x:=by have:=hx 0 _ rfl; simpa using this
   have e:cS ops I s (k + 1)=({ cS ops I s k with H:=kh x (cS ops I s k).H } : St).put o.dst x.av:=by simp only [cS]; rw [hIk,hod]
   rw [← e] at hr
   obtain ⟨g1,g2⟩:=uO r xs (k + 1) hl' (fun i x h=>by have:=hx (i + 1) x (by simpa using h); rw [← this]; congr 1; omega) (by simp at hk; omega) hr
   refine ⟨fun i o' hi ho'=>?_,g2⟩
   by_cases hik:i=k
   ·subst hik
    rw [ho] at ho'; cases ho'
    exact ⟨by rw [hIk]; exact hpu,fun t ht=>by rw [← hn]; exact hd t ht,.inr ⟨hg,by rw [hIk]; exact h⟩⟩
   exact g1 i o' (by omega) ho'
def tD (ops:Array Oper) (I:Nat→I2) (s:St) (L:Nat) (D:Nat→Bool):Nat→St
 | 0=>{ s with H:=s.H++List.replicate L .dead }
 | k + 1=>if D k then ({ tD ops I s L D k with H:=mu (I k) (tD ops I s L D k).H } : St).put (bL ops k).dst (I k).av else tD ops I s L D k
variable {L:Nat}
theorem uf (D:Nat→Bool):∀ k,(tD ops I s L D k).n=s.n
 | 0=>rfl
 | k + 1=>by
  simp only [tD]
  split
  ·rw [St.jZ]; exact uf D k
  exact uf D k
theorem kD (D:Nat→Bool):∀ k,(tD ops I s L D k).H.length=s.H.length + L
 | 0=>by simp [tD]
 | k + 1=>by
  simp only [tD]
  split
  ·rw [St.fQ,sB]; exact kD D k
  exact kD D k
theorem gZ (D:Nat→Bool) (k t:Nat):(tD ops I s L D (k + 1)).get t=if D k=true∧(bL ops k).dst=some t then (I k).av else (tD ops I s L D k).get t:=by
 simp only [tD]
 by_cases h:D k=true
 ·rw [if_pos h,eQ]
  by_cases hd:(bL ops k).dst=some t
  ·have hr:D k=true∧(bL ops k).dst=some t:=⟨h,hd⟩
   rw [if_pos hd,if_pos hr]
  have hr:¬ (D k=true∧(bL ops k).dst=some t):=fun hh=>hd hh.2
  rw [if_neg hd,if_neg hr]; rfl
 have hr:¬ (D k=true∧(bL ops k).dst=some t):=fun hh=>h hh.1
 rw [if_neg h,if_neg hr]
theorem eO (D:Nat→Bool) (k b:Nat):aq (tD ops I s L D (k + 1)).H b=if D k=true∧(I k).c.lu b=true∧b < s.H.length + L then wv (I k) b else aq (tD ops I s L D k).H b:=by
 simp only [tD]
 by_cases h:D k=true
 ·rw [if_pos h,St.fQ]
  simp only
  rw [pX,kD]
  by_cases hd:(I k).c.lu b=true∧b < s.H.length + L
  ·rw [if_pos hd,if_pos ⟨h,hd⟩]
  rw [if_neg hd,if_neg (fun hh=>hd hh.2)]
 rw [if_neg h,if_neg (fun hh=>h hh.1)]
theorem mL (D : Nat → Bool) (t : Nat) : ∀ k n, k ≤ n → (∀ i, k ≤ i → i < n → D i = true → (bL ops i).dst ≠ some t) → (tD ops I s L D n).get t = (tD ops I s L D k).get t := by
  intro k n hkn h
  induction n with
  | zero => obtain rfl : k = 0 := by omega
            rfl
  | succ n ih =>
    by_cases hk : k = n + 1
    · rw [hk]
    · rw [gZ, if_neg (fun hh => h n (by omega) (by omega) hh.1 hh.2)]
      exact ih (by omega) fun i h1 h2 => h i h1 (by omega)
theorem kY (D : Nat → Bool) (b : Nat) : ∀ k n, k ≤ n → (∀ i, k ≤ i → i < n → D i = true → (I i).c.lu b = false) → aq (tD ops I s L D n).H b = aq (tD ops I s L D k).H b := by
  intro k n hkn h
  induction n with
  | zero => obtain rfl : k = 0 := by omega
            rfl
  | succ n ih =>
    by_cases hk : k = n + 1
    · rw [hk]
    · rw [eO, if_neg (fun hh => by have := h n (by omega) (by omega) hh.1; rw [this] at hh; simp at hh)]
      exact ih (by omega) fun i h1 h2 => h i h1 (by omega)
theorem jl (D D' : Nat→Bool) (t:Nat):∀ k,(∀ i,i < k→(bL ops i).dst=some t→D i=D' i)→(tD ops I s L D k).get t=(tD ops I s L D' k).get t:=by
 intro k h
 induction k with
 | zero=>rfl
 | succ k ih =>
  rw [gZ,gZ,ih fun i hi=>h i (by omega)]
  by_cases hd:(bL ops k).dst=some t
  ·rw [h k (by omega) hd]
  rw [if_neg (fun hh=>hd hh.2),if_neg (fun hh=>hd hh.2)]
theorem gY (D D' : Nat→Bool) (b:Nat):∀ k,(∀ i,i < k→(I i).c.lu b=true→D i=D' i)→aq (tD ops I s L D k).H b=aq (tD ops I s L D' k).H b:=by
 intro k h
 induction k with
 | zero=>rfl
 | succ k ih =>
  rw [eO,eO,ih fun i hi=>h i (by omega)]
  by_cases hd:(I k).c.lu b=true
  ·rw [h k (by omega) hd]
  rw [if_neg (fun hh=>hd hh.2.1),if_neg (fun hh=>hd hh.2.1)]
def Fits (I:Nat→I2) (s:St) (ops:Array Oper) (n:Nat):Prop:=∀ k,k < n→match (I k).c with
 | .ld j=>j < (cS ops I s k).H.length
 | .st j=>j < (cS ops I s k).H.length
 | .nw j=>j=(cS ops I s k).H.length
 | .ap i j=>i < (cS ops I s k).H.length∧j=(cS ops I s k).H.length
 | .ms l=>∀ p∈l,p.1 < (cS ops I s k).H.length
 | .f=>True
theorem Ae (x:I2) (H:aw):H.length≤(kh x H).length:=by
 unfold kh; split<;>simp [aB,gA]
theorem cM : ∀ {k n : Nat}, k ≤ n → (cS ops I s k).H.length ≤ (cS ops I s n).H.length := by
  intro k n h
  induction n with
  | zero => obtain rfl : k = 0 := by omega
            exact Nat.le_refl _
  | succ n ih =>
    by_cases hk : k = n + 1
    · rw [hk]; exact Nat.le_refl _
    · refine Nat.le_trans (ih (by omega)) ?_
      simp only [cS]
      rw [St.fQ]
      exact Ae _ _
theorem fX:∀ {H:aw} {j:Nat},H.length≤j→aq H j = .dead
 | [],j,_=>by cases j<;>rfl
 | x :: r,0,h=>by simp at h
 | x :: r,j + 1,h=>fX (H:=r) (by simpa using h)
theorem D8 {n:Nat} (hf:Fits I s ops n) (hL:(cS ops I s n).H.length=s.H.length + L):∀ k,k≤n→(∀ t,(tD ops I s L (fun _=>true) k).get t=(cS ops I s k).get t)∧∀ b,aq (tD ops I s L (fun _=>true) k).H b=aq (cS ops I s k).H b:=by
 intro k
 induction k with
 | zero =>
  intro _
  refine ⟨fun t=>rfl,fun b=>?_⟩
  simp only [tD,cS]
  by_cases hb:b < s.H.length
  ·rw [aF hb]
  rw [aY (by omega),ln,fX (by omega)]
 | succ k ih =>
  intro hk
  obtain ⟨ih1,ih2⟩:=ih (by omega)
  have hle:=cM (ops:=ops) (I:=I) (s:=s) (show k + 1≤n from hk)
  have hlen:(kh (I k) (cS ops I s k).H).length≤s.H.length + L:=by
   rw [← hL]
   refine Nat.le_trans ?_ hle
   simp only [cS]; rw [St.fQ]; exact Nat.le_refl _
  refine ⟨fun t=>?_,fun b=>?_⟩
  ·rw [gZ]
   simp only [cS]
   rw [eQ,ih1]
   by_cases hd:(bL ops k).dst=some t
   ·rw [if_pos ⟨trivial,hd⟩,if_pos hd]
   rw [if_neg (fun hh=>hd hh.2),if_neg hd]; rfl
  rw [eO,ih2]
  simp only [cS]
  rw [St.fQ]
  simp only
  have hfk:=hf k (by omega)
  unfold kh at hlen ⊢
  unfold wv
  cases hc:(I k).c with
  | f=>simp [fg.lu]
  | ld j=>simp [fg.lu]
  | ms l =>
   rw [hc] at hfk
   have hjj:=cM (ops:=ops) (I:=I) (s:=s) (show k≤n by omega)
   simp only [fg.lu,true_and]
   rw [mc]
   by_cases hb:(l.any fun p=>p.1 == b)=true
   ·obtain ⟨p,hp,e⟩:=List.any_eq_true.1 hb
    have e:p.1=b:=by simpa using e
    have:=hfk p hp
    rw [if_pos ⟨hb,by omega⟩,if_pos ⟨hb,by omega⟩]
   rw [if_neg (fun hh=>hb hh.1),if_neg (fun hh=>hb hh.1)]
  | st j =>
   rw [hc] at hfk
   have hjj:=cM (ops:=ops) (I:=I) (s:=s) (show k≤n by omega)
   simp only [fg.lu,beq_iff_eq,true_and]
   rw [aT]
   by_cases hb:b=j
   ·subst hb
    rw [if_pos ⟨rfl,by omega⟩,if_pos ⟨rfl,hfk⟩]
   rw [if_neg (fun hh=>hb hh.1.symm),if_neg (fun hh=>hb hh.1)]
  | nw j =>
   rw [hc] at hfk hlen
   simp only [List.length_append,List.length_singleton] at hlen
   simp only [fg.lu,beq_iff_eq,true_and]
   by_cases hb:b=j
   ·subst hb
    rw [if_pos ⟨rfl,by omega⟩,aY (by omega),hfk,Nat.sub_self]; rfl
   rw [if_neg (fun hh=>hb hh.1.symm)]
   by_cases hlt:b < (cS ops I s k).H.length
   ·rw [aF hlt]
   rw [fX (by omega),fX (by simp; omega)]
  | ap i j =>
   rw [hc] at hfk hlen
   obtain ⟨hf1,hf2⟩:=hfk
   simp only [List.length_append,List.length_singleton,aB] at hlen
   have hjj:=cM (ops:=ops) (I:=I) (s:=s) (show k≤n by omega)
   simp only [fg.lu,Bool.or_eq_true,beq_iff_eq,true_and]
   by_cases hb:b=j
   ·subst hb
    rw [if_pos ⟨.inr rfl,by omega⟩,if_pos rfl,aY (by rw [aB]; omega),aB,hf2,Nat.sub_self]; rfl
   by_cases hb2:b=i
   ·subst hb2
    rw [if_pos ⟨.inl rfl,by omega⟩,if_neg (Ne.symm hb),aF (by rw [aB]; exact hf1),aT,if_pos ⟨rfl,hf1⟩]
   rw [if_neg (fun hh=>by rcases hh.1 with e | e; exact hb2 e.symm; exact hb e.symm)]
   by_cases hlt:b < (cS ops I s k).H.length
   ·rw [aF (by rw [aB]; exact hlt),aT,if_neg (fun hh=>hb2 hh.1)]
   rw [fX (by omega),fX (by simp [aB]; omega)]
def j9 (ops:Array Oper) (I:Nat→I2) (i j:Nat):Bool:=(bL ops i).apart ops (bL ops j) && !mW (I i).c (I j).c
def Gw (κ:Nat):aL→Bool
 | .own c=>c.all (Hs κ)
 | _=>true
def kF:aL→Bool
 | .dx _ _=>false
 | _=>true
theorem mS {b:aL} (h:kF b=true) (i j:Nat):b ≠ .dx i j:=by intro e; subst e; cases h
def I2.na (x:I2):Bool:=
 match x.c with
 | .ms _=>true
 | _=>kF x.b
def kV (ops : Array Oper) (xs : List I2) : Bool :=
  (List.range ops.size).all fun j =>
    ((bL ops j).after.toList.all fun e => !Region.binds .any e || e.on < j) &&
    ((List.range j).all fun i => j9 ops (fun i => xs.getD i default) i j || ((dx ops).getD j 0).testBit i) &&
    (match (xs.getD j default).c.mk with
     | some κ => (List.range ops.size).all fun i => i == j || ((dx ops).getD i 0).testBit j || (Hs κ (xs.getD i default).av && ((xs.getD i default).pu || (xs.getD i default).q5.all (Gw κ)))
     | none => true) && (xs.getD j default).na
theorem qP {xs:List I2} (h:kV ops xs=true):(∀ j o,ops[j]? = some o→∀ e∈o.after.toList,Region.binds .any e=true→e.on < j) ∧
  (∀ i j,i < j→j < ops.size→j9 ops (fun i=>xs.getD i default) i j=false→((dx ops).getD j 0).testBit i=true) ∧
  (∀ j κ,j < ops.size→(xs.getD j default).c.mk=some κ→∀ i,i < ops.size→i ≠ j→((dx ops).getD i 0).testBit j=false→bm κ (xs.getD i default).av∧((xs.getD i default).pu=false→∀ c,aL.own c∈(xs.getD i default).q5→∀ (q:Nat) (h:q < c.length),bm κ c[q])) ∧
  (∀ j,j < ops.size→(xs.getD j default).na=true):=by
 unfold kV at h
 rw [List.all_eq_true] at h
 refine ⟨?_,?_,?_,?_⟩
 rotate_left 3
 ·intro j hj
  have:=h j (by simpa using hj)
  rw [Bool.and_eq_true] at this
  exact this.2
 ·intro j o ho e he hb
  have hj:=(Array.getElem?_eq_some_iff.1 ho).1
  have:=h j (by simpa using hj)
  rw [Bool.and_eq_true,Bool.and_eq_true,Bool.and_eq_true] at this
  have h1:=(List.all_eq_true.1 this.1.1.1) e (by rw [eN ho]; exact he)
  rw [hb] at h1
  simpa using h1
 ·intro i j hij hj ha
  have:=h j (by simpa using hj)
  rw [Bool.and_eq_true,Bool.and_eq_true,Bool.and_eq_true] at this
  have h1:=(List.all_eq_true.1 this.1.1.2) i (by simpa using hij)
  rw [ha,Bool.false_or] at h1
  exact h1
 intro j κ hj hc i hi hij hb
 have:=h j (by simpa using hj)
 rw [Bool.and_eq_true,Bool.and_eq_true,Bool.and_eq_true] at this
 have h1:=this.1.2
 rw [hc] at h1
 have h2:=(List.all_eq_true.1 h1) i (by simpa using hi)
 rw [hb] at h2
 have hij' : (i == j)=false:=by simpa using hij
 rw [hij',Bool.false_or,Bool.false_or,Bool.and_eq_true] at h2
 refine ⟨rV h2.1,fun hpu c hc' q hq=>?_⟩
 have h3:=h2.2
 rw [hpu,Bool.false_or] at h3
 exact rV ((List.all_eq_true.1 ((List.all_eq_true.1 h3) _ hc')) _ (List.getElem_mem hq))
end
open Go.RowKit
theorem mY:∀ {H:aw} {k:Nat} {b:aL},k < H.length→aq H k=b→H[k]? = some b
 | x :: r,0,b,_,h=>by simp only [aq] at h; simp [h]
 | x :: r,k + 1,b,hk,h=>by simpa using mY (H:=r) (by simpa using hk) h
 | [],k,b,hk,_=>by simp at hk
theorem jt:∀ {H:aw} {k:Nat} {b:aL},H[k]? = some b→aq H k=b
 | x :: r,0,b,h=>by simpa [aq] using h
 | x :: r,k + 1,b,h=>jt (H:=r) (by simpa using h)
 | [],k,b,h=>by simp at h
section
variable {P:Program} {ops:Array Oper}
theorem r8 {Q:Exit→Act→World→Prop} {C:Ctx} {ds:List Deferred} {s s' : St} {xs:List I2} (hok:kV ops xs=true) (hrun:tu P ops ops.toList xs s s') {m:Map} {a:Act} {w:World} (R:Rel C m s a.tmps w) (hd:a.defers=ds)
  (hQ:∀ m' (a' : Act) w',Rel C m' s' a'.tmps w'→a'.defers=ds→Q .normal a' w'):nt P .any ops Q ops.size (Array.replicate ops.size false) a w:=by
 obtain ⟨hedge,hconf,hnr,hna⟩:=qP hok
 obtain ⟨I,hI⟩:∃ I:Nat→I2,I=fun i=>xs.getD i default:=⟨_,rfl⟩
 rw [← hI] at hconf
 have hna0:∀ j,j < ops.size→(I j).na=true:=by rw [hI]; exact hna
 have hnr0:∀ j κ,j < ops.size→(I j).c.mk=some κ→∀ i,i < ops.size→i ≠ j→((dx ops).getD i 0).testBit j=false→bm κ (I i).av∧((I i).pu=false→∀ c,aL.own c∈(I i).q5→∀ (q:Nat) (h:q < c.length),bm κ c[q]):=by
  rw [hI]; exact hnr
 obtain ⟨hfact,rfl⟩:=uO (P:=P) (ops:=ops) (I:=I) (s:=s) (s':=s') ops.toList xs 0 (fun i=>by simp) (fun i x h=>by rw [hI]; simp [List.getD,h]) (by simp) hrun
 have hfact:∀ i o,ops[i]? = some o→C9 P ops I s i o:=fun i o=>hfact i o (Nat.zero_le _)
 have hna:∀ j,j < ops.size→∀ i k,aL.dx i k ∉ (I j).q5:=by
  intro j hj i k hm
  have h0:=hna0 j hj
  obtain ⟨_,_,hh⟩:=hfact j ops[j] (Array.getElem?_eq_getElem hj)
  unfold I2.q5 at hm
  unfold I2.na at h0
  rcases hh with ⟨_,e⟩ | ⟨_,h⟩
  ·rw [e] at hm; simp at hm
  unfold sH at h
  split at hm
  ·rename_i l hc
   rw [hc] at h
   obtain ⟨p,hp,e⟩:=List.mem_map.1 hm
   exact h.1.2 p hp i k e
  split at h0
  ·rename_i hneg _ _ hc2
   exact absurd hc2 (hneg _)
  rw [List.mem_singleton] at hm
  exact mS h0 i k hm.symm
 have hnr:∀ j κ,j < ops.size→(I j).c.mk=some κ→∀ i,i < ops.size→i ≠ j→((dx ops).getD i 0).testBit j=false→bm κ (I i).av∧∀ c,aL.own c∈(I i).q5→∀ (q:Nat) (h:q < c.length),bm κ c[q]:=by
  intro j κ hj hc i hi hij hb
  obtain ⟨g1,g2⟩:=hnr0 j κ hj hc i hi hij hb
  refine ⟨g1,fun c hc' q hq=>?_⟩
  cases hpu:(I i).pu with
  | false=>exact g2 hpu c hc' q hq
  | true=>exact (hfact i ops[i] (Array.getElem?_eq_getElem hi)).pu hpu c hc' q hq κ
 have hfits:Fits I s ops ops.size:=by
  intro k hk
  obtain ⟨_,_,hh⟩:=hfact k ops[k] (Array.getElem?_eq_getElem hk)
  rcases hh with ⟨_,e⟩ | ⟨_,h⟩
  ·rw [e]; trivial
  unfold sH at h
  cases hc:(I k).c with
  | f=>trivial
  | ld j=>rw [hc] at h; exact h.1
  | ms l=>rw [hc] at h; exact h.1.1
  | st j=>rw [hc] at h; exact h.1
  | nw j=>rw [hc] at h; exact h.1
  | ap i j=>rw [hc] at h; exact h.1
 obtain ⟨L,hL⟩:∃ L,(cS ops I s ops.size).H.length=s.H.length + L:=⟨(cS ops I s ops.size).H.length - s.H.length,by
  have:=cM (ops:=ops) (I:=I) (s:=s) (Nat.zero_le ops.size)
  simp only [cS] at this; omega⟩
 have hall:=D8 hfits hL
 have hκ0:∀ j κ,j < ops.size→(I j).c.mk=some κ→s.H.length≤κ∧κ < s.H.length + L:=by
  intro j κ hj hc
  have h1:=hfits j hj
  have h2:=cM (ops:=ops) (I:=I) (s:=s) (Nat.zero_le j)
  have h3:=cM (ops:=ops) (I:=I) (s:=s) (show j + 1≤ops.size from hj)
  simp only [cS] at h2
  cases hcc:(I j).c with
  | nw k =>
   rw [hcc] at h1 hc
   simp only [fg.mk,Option.some.injEq] at hc
   simp only at h1
   have h4:(cS ops I s (j + 1)).H.length=(cS ops I s j).H.length + 1:=by
    simp only [cS]; rw [St.fQ]; simp only [kh,hcc]; simp
   omega
  | ap q k =>
   rw [hcc] at h1 hc
   simp only [fg.mk,Option.some.injEq] at hc
   simp only at h1
   have h4:(cS ops I s (j + 1)).H.length=(cS ops I s j).H.length + 1:=by
    simp only [cS]; rw [St.fQ]; simp only [kh,hcc]; simp [aB]
   omega
  | f=>rw [hcc] at hc; simp [fg.mk] at hc
  | ld _=>rw [hcc] at hc; simp [fg.mk] at hc
  | st _=>rw [hcc] at hc; simp [fg.mk] at hc
  | ms _=>rw [hcc] at hc; simp [fg.mk] at hc
 have hs0:∀ κ,s.H.length≤κ→(∀ t,bm κ (s.get t))∧(∀ (j:Nat) (c:List AV),s.H[j]? = some (aL.own c)→∀ (i:Nat) (h:i < c.length),bm κ c[i])∧∀ (b i j:Nat),s.H[b]? = some (aL.dx i j)→j ≠ κ:=by
  intro κ hκ
  refine ⟨fun t=>(R.slot t).sj hκ,fun j c hc i hi=>?_,fun b i j hb e=>by have:=(R.mp.2.2.1 b i j hb).1; omega⟩
  rcases R.blk j c hc with ⟨b1,_⟩ | ⟨l2,cur2,e2,_,_,_,_,_,_,b7⟩
  ·subst b1; simp at hi
  exact (b7 i hi).sj hκ
 have key:∀ (fuel:Nat) (listed:Array Bool) (m:Map) (a:Act) (w:World),listed.size=ops.size→(List.range ops.size).countP (fun i=>!listed.getD i true)=fuel →
   (∀ j o,listed.getD j false=true→ops[j]? = some o→∀ e∈o.after.toList,Region.binds .any e=true→listed.getD e.on false=true) →
   Rel C m (tD ops I s L (fun i=>listed.getD i false) ops.size) a.tmps w→a.defers=ds→nt P .any ops Q fuel listed a w:=by
  intro fuel
  induction fuel with
  | zero =>
   intro listed m a w hsz hcnt hcl R hd
   have hal:∀ i,i < ops.size→listed.getD i true=true:=by
    intro i hi
    have:=List.countP_eq_zero.1 hcnt i (by simpa using hi)
    simpa using this
   have hal' : ∀ i,i < ops.size→listed.getD i false=true:=by
    intro i hi
    have:=hal i hi
    simp [Array.getD_eq_getD_getElem?,Array.getElem?_eq_getElem (show i < listed.size by omega)] at this ⊢
    exact this
   obtain ⟨a1,a2⟩:=hall ops.size (Nat.le_refl _)
   refine ⟨?_,hQ m a w (R.congr (fun t=>?_) ?_ ?_) hd⟩
   ·unfold Region.ready
    rw [List.filter_eq_nil_iff]
    intro i hi
    have:=hal i (by simpa using hi)
    simp [this]
   ·rw [← a1]
    exact (jl _ _ t _ fun i hi _=>(hal' i hi)).symm
   ·refine jq (by rw [hL,kD]) fun b=>?_
    rw [← a2]
    exact (gY _ _ b _ fun i hi _=>(hal' i hi)).symm
   rw [uf,Bq]
  | succ fuel ih =>
   intro listed m a w hsz hcnt hcl R hd
   refine ⟨fun hnil=>?_,fun j hj=>?_⟩
   ·
    exfalso
    have hex:∃ i,i < ops.size∧listed.getD i true=false:=by
     have:0 < (List.range ops.size).countP (fun i=>!listed.getD i true):=by omega
     obtain ⟨i,hi,h⟩:=List.countP_pos_iff.1 this
     exact ⟨i,by simpa using hi,by simpa using h⟩
    have hmin:∃ i,i < ops.size∧listed.getD i true=false∧∀ k,k < i→listed.getD k true=true:=by
     obtain ⟨i,hi,h⟩:=hex
     induction i using Nat.strongRecOn with
     | _ i ihh =>
      by_cases hall:∀ k,k < i→listed.getD k true=true
      ·exact ⟨i,hi,h,hall⟩
      simp only [Classical.not_forall] at hall
      obtain ⟨k,hk,hkn⟩:=hall
      exact ihh k hk (by omega) (by simpa using hkn)
    obtain ⟨i,hi,hli,hbelow⟩:=hmin
    have hmem:i∈Region.ready .any ops listed:=by
     unfold Region.ready
     rw [List.mem_filter]
     refine ⟨by simpa using hi,?_⟩
     rw [hli,Array.getElem?_eq_getElem hi]
     simp only [Bool.not_false,Bool.true_and,Option.map_some,Option.getD_some]
     rw [Array.all_eq_true_iff_forall_mem]
     intro e he
     by_cases hb:Region.binds .any e=true
     ·have hlt:=hedge i ops[i] (Array.getElem?_eq_getElem hi) e (by simpa using he) hb
      have:=hbelow e.on hlt
      have hlt' : e.on < listed.size:=by omega
      simp [Array.getD_eq_getD_getElem?,Array.getElem?_eq_getElem hlt'] at this ⊢
      simp [this]
     simp [hb]
    rw [hnil] at hmem
    simp at hmem
   unfold Region.ready at hj
   rw [List.mem_filter] at hj
   obtain ⟨hjlt,hj⟩:=hj
   have hjlt:j < ops.size:=by simpa using hjlt
   have hoj:ops[j]? = some ops[j]:=Array.getElem?_eq_getElem hjlt
   generalize ops[j]=o at hoj
   rw [hoj] at hj
   simp only [Option.map_some,Option.getD_some,Bool.and_eq_true,Bool.not_eq_eq_eq_not,Bool.not_true] at hj
   obtain ⟨hnl,hal⟩:=hj
   have hjls:j < listed.size:=by omega
   have hnl' : listed.getD j false=false:=by
    simp [Array.getD_eq_getD_getElem?,Array.getElem?_eq_getElem hjls] at hnl ⊢
    exact hnl
   have hpre:∀ e∈o.after.toList,Region.binds .any e=true→listed.getD e.on false=true:=by
    intro e he hb
    have:=(Array.all_eq_true_iff_forall_mem.1 hal) e (by simpa using he)
    rw [hb] at this
    simpa using this
   have hanc:∀ i,((dx ops).getD j 0).testBit i=true→listed.getD i false=true:=
    qS (D:=fun i=>listed.getD i false=true) hcl j j o (Nat.le_refl _) hoj hpre
   have hanc' : ∀ i,listed.getD i false=true→∀ oi,ops[i]? = some oi→∀ k,((dx ops).getD i 0).testBit k=true→listed.getD k false=true:=
    fun i hi oi hoi=>qS (D:=fun i=>listed.getD i false=true) hcl i i oi (Nat.le_refl _) hoi (hcl i oi hi hoi)
   have hod:bL ops j=o:=eN hoj
   have low:∀ i,i < j→j9 ops I i j=false→listed.getD i false=true:=fun i hi ha=>hanc i (hconf i j hi hjlt ha)
   have high:∀ i,j < i→i < ops.size→listed.getD i false=true→j9 ops I j i=true:=by
    intro i hi hlt hli
    have hoi:ops[i]? = some ops[i]:=Array.getElem?_eq_getElem hlt
    by_cases ha:j9 ops I j i=true
    ·exact ha
    have:=hanc' i hli ops[i] hoi j (hconf j i hi hlt (by simpa using ha))
    rw [this] at hnl'; cases hnl'
   have ap1:∀ {i k:Nat},j9 ops I i k=true→(bL ops i).apart ops (bL ops k)=true∧mW (I i).c (I k).c=false:=by
    intro i k h
    unfold j9 at h
    simpa using h
   have agree:∀ t,t∈o.looksAt ops→(tD ops I s L (fun i=>listed.getD i false) ops.size).get t=(cS ops I s j).get t:=by
    intro t ht
    rw [← (hall j (by omega)).1,mL _ t j ops.size (by omega) (fun i h1 h2 h3 h4=>?_)]
    ·refine jl _ _ t j fun i hi hdi=>?_
     rw [low i hi ?_]
     rw [Bool.eq_false_iff]
     intro hap
     have:=(ap1 hap).1
     rw [hod] at this
     exact (Oper.apart_spec this).1 t hdi ht
    by_cases hij:i=j
    ·subst hij; rw [hnl'] at h3; cases h3
    have:=(ap1 (high i (by omega) h2 h3)).1
    rw [hod] at this
    exact (Oper.apart_spec this).2.2 t h4 ht
   have agreeH:∀ b,(I j).c.mI b=true→aq (tD ops I s L (fun i=>listed.getD i false) ops.size).H b=aq (cS ops I s j).H b:=by
    intro b hb
    rw [← (hall j (by omega)).2,kY _ b j ops.size (by omega) (fun i h1 h2 h3=>?_)]
    ·refine gY _ _ b j fun i hi hwi=>?_
     rw [low i hi ?_]
     rw [Bool.eq_false_iff]
     intro hap
     exact (kd (ap1 hap).2 b).2 ⟨hwi,hb⟩
    by_cases hij:i=j
    ·subst hij; rw [hnl'] at h3; cases h3
    rw [Bool.eq_false_iff]
    intro hw
    exact (kd (ap1 (high i (by omega) h2 h3)).2 b).1 ⟨hb,hw⟩
   have hlist:∀ i,(listed.setIfInBounds j true).getD i false=if i=j then true else listed.getD i false:=by
    intro i
    simp only [Array.getD_eq_getD_getElem?]
    by_cases hij:i=j
    ·subst hij; rw [Array.getElem?_setIfInBounds_self_of_lt hjls,if_pos rfl]; rfl
    rw [Array.getElem?_setIfInBounds_ne (Ne.symm hij),if_neg hij]
   have insertGet:∀ t,(tD ops I s L (fun i=>(listed.setIfInBounds j true).getD i false) ops.size).get t=if o.dst=some t then (I j).av else (tD ops I s L (fun i=>listed.getD i false) ops.size).get t:=by
    intro t
    have base:∀ k,k≤j→(tD ops I s L (fun i=>(listed.setIfInBounds j true).getD i false) k).get t=(tD ops I s L (fun i=>listed.getD i false) k).get t:=fun k hk =>
     jl _ _ t k fun i hi _=>by rw [hlist,if_neg (by omega)]
    have step:∀ n,j + 1≤n→n≤ops.size→(tD ops I s L (fun i=>(listed.setIfInBounds j true).getD i false) n).get t=if o.dst=some t then (I j).av else (tD ops I s L (fun i=>listed.getD i false) n).get t:=by
     intro n hn hns
     induction n with
     | zero=>omega
     | succ n ihn =>
      by_cases hnj:n=j
      ·subst hnj
       rw [gZ,gZ,hod,base n (Nat.le_refl _),hlist,if_pos rfl,hnl']
       by_cases hdt:o.dst=some t
       ·simp [hdt]
       simp [hdt]
      rw [gZ,gZ,ihn (by omega) (by omega),hlist,if_neg hnj]
      by_cases hln:listed.getD n false=true∧(bL ops n).dst=some t
      ·rw [if_pos hln,if_pos hln]
       have hap:=(ap1 (high n (by omega) (by omega) hln.1)).1
       rw [hod] at hap
       by_cases hdt:o.dst=some t
       ·exact absurd hln.2 ((Oper.apart_spec hap).2.1 t hdt)
       rw [if_neg hdt]
      rw [if_neg hln,if_neg hln]
    exact step ops.size (by omega) (Nat.le_refl _)
   have insertH:∀ b,aq (tD ops I s L (fun i=>(listed.setIfInBounds j true).getD i false) ops.size).H b=if (I j).c.lu b=true∧b < s.H.length + L then wv (I j) b else aq (tD ops I s L (fun i=>listed.getD i false) ops.size).H b:=by
    intro b
    have base:∀ k,k≤j→aq (tD ops I s L (fun i=>(listed.setIfInBounds j true).getD i false) k).H b=aq (tD ops I s L (fun i=>listed.getD i false) k).H b:=fun k hk =>
     gY _ _ b k fun i hi _=>by rw [hlist,if_neg (by omega)]
    have step:∀ n,j + 1≤n→n≤ops.size→aq (tD ops I s L (fun i=>(listed.setIfInBounds j true).getD i false) n).H b=if (I j).c.lu b=true∧b < s.H.length + L then wv (I j) b else aq (tD ops I s L (fun i=>listed.getD i false) n).H b:=by
     intro n hn hns
     induction n with
     | zero=>omega
     | succ n ihn =>
      by_cases hnj:n=j
      ·subst hnj
       rw [eO,eO,base n (Nat.le_refl _),hlist,if_pos rfl,hnl']
       by_cases hdt:(I n).c.lu b=true∧b < s.H.length + L
       ·rw [if_pos ⟨rfl,hdt⟩,if_pos hdt]
       rw [if_neg (fun hh=>hdt hh.2),if_neg hdt,if_neg (fun hh=>by cases hh.1)]
      rw [eO,eO,ihn (by omega) (by omega),hlist,if_neg hnj]
      by_cases hln:listed.getD n false=true∧(I n).c.lu b=true∧b < s.H.length + L
      ·rw [if_pos hln,if_pos hln]
       have hap:=(ap1 (high n (by omega) (by omega) hln.1)).2
       by_cases hdt:(I j).c.lu b=true
       ·exact absurd ⟨hdt,fg.qF hln.2.1⟩ (kd hap b).2
       rw [if_neg (fun hh=>hdt hh.1)]
      rw [if_neg hln,if_neg hln]
    exact step ops.size (by omega) (Nat.le_refl _)
   have hcnt' : (List.range ops.size).countP (fun i=>!(listed.setIfInBounds j true).getD i true)=fuel:=by
    have hsplit:∀ (l:List Nat),l.Nodup→j∈l→l.countP (fun i=>!listed.getD i true)=l.countP (fun i=>!(listed.setIfInBounds j true).getD i true) + 1:=by
     intro l
     induction l with
     | nil=>intro _ h; simp at h
     | cons x r ihl =>
      intro hnd hmem
      have hx:∀ i,i ≠ j→(listed.setIfInBounds j true).getD i true=listed.getD i true:=by
       intro i hi
       simp only [Array.getD_eq_getD_getElem?]
       rw [Array.getElem?_setIfInBounds_ne (Ne.symm hi)]
      rw [List.nodup_cons] at hnd
      by_cases hxj:x=j
      ·subst hxj
       have e1:(listed.setIfInBounds x true).getD x true=true:=by
        simp only [Array.getD_eq_getD_getElem?]
        rw [Array.getElem?_setIfInBounds_self_of_lt hjls]; rfl
       rw [List.countP_cons,List.countP_cons,hnl,e1]
       have:r.countP (fun i=>!listed.getD i true)=r.countP (fun i=>!(listed.setIfInBounds x true).getD i true):=by
        apply List.countP_congr
        intro i hi
        rw [hx i (fun e=>hnd.1 (e ▸ hi))]
       simp only [this,Bool.not_false,Bool.not_true,if_true,Bool.false_eq_true,if_false,Nat.add_zero]
      rw [List.countP_cons,List.countP_cons,hx x hxj,ihl hnd.2 (by rcases List.mem_cons.1 hmem with h | h; exact absurd h.symm hxj; exact h)]
      omega
    have:=hsplit (List.range ops.size) List.nodup_range (by simpa using hjlt)
    omega
   have hcl' : ∀ i oi,(listed.setIfInBounds j true).getD i false=true→ops[i]? = some oi→∀ e∈oi.after.toList,Region.binds .any e=true→(listed.setIfInBounds j true).getD e.on false=true:=by
    intro i oi hi hoi e he hb
    rw [hlist] at hi ⊢
    by_cases hij:i=j
    ·subst hij
     rw [hoj] at hoi; cases hoi
     rw [hpre e he hb]; simp
    rw [if_neg hij] at hi
    rw [hcl i oi hi hoi e he hb]; simp
   have hTlen:(tD ops I s L (fun i=>listed.getD i false) ops.size).H.length=s.H.length + L:=kD _ _
   have next:∀ (m' : Map) (a' : Act) (w' : World),(∃ s2:St,Rel C m' s2 a'.tmps w'∧(∀ t,s2.get t=if o.dst=some t then (I j).av else (tD ops I s L (fun i=>listed.getD i false) ops.size).get t) ∧
      (s2.H=mu (I j) (tD ops I s L (fun i=>listed.getD i false) ops.size).H)∧s2.n=s.n)→a'.defers=ds→nt P .any ops Q fuel (listed.setIfInBounds j true) a' w':=by
    rintro m' a' w' ⟨s2,R2,e1,e2,e3⟩ hd'
    refine ih _ m' a' w' (by simpa using hsz) hcnt' hcl' (R2.congr (fun t=>?_) ?_ ?_) hd'
    ·rw [insertGet,e1]
    ·rw [e2]
     refine jq (by rw [kD,sB,hTlen]) fun b=>?_
     rw [insertH,pX,hTlen]
    rw [uf,e3]
   have hgd:∀ b,bw ops (cS ops I s j) o=some b→bw ops (tD ops I s L (fun i=>listed.getD i false) ops.size) o=some b:=by
    intro b h
    unfold bw at h ⊢
    split at h
    ·exact h
    rename_i g want e
    split at h
    ·rename_i d hdd
     have:(tD ops I s L (fun i=>listed.getD i false) ops.size).get d=(cS ops I s j).get d:=agree d (by
      unfold Oper.looksAt
      rw [e]
      simp [hdd])
     rw [this]
     exact h
    cases h
   have hsn:(tD ops I s L (fun i=>listed.getD i false) ops.size).n=s.n:=uf _ _
   obtain ⟨_,fd,fh⟩:=hfact j o hoj
   unfold Hk
   rw [hoj]
   simp only
   rcases fh with ⟨hg,hIj⟩ | ⟨hg,hloc⟩
   ·rw [cX (P:=P) R (hgd _ hg)]
    simp only [Bool.false_eq_true,if_false]
    refine next m _ w ⟨_,R.put (fun t ht=>by rw [hsn]; exact fd t ht) (.p _ _ pn),fun t=>?_,?_,?_⟩ (by rw [put_defers]; exact hd)
    ·rw [eQ,hIj]
    ·rw [St.fQ,hIj]; rfl
    rw [St.jZ,hsn]
   rw [cX (P:=P) R (hgd _ hg)]
   simp only [if_true]
   left
   have hag:fx o (cS ops I s j) (tD ops I s L (fun i=>listed.getD i false) ops.size):=by
    intro x hx
    cases x with
    | tmp t =>
     simp only [St.ev]
     refine agree t ?_
     unfold Oper.looksAt
     rw [List.mem_append]
     left
     rw [List.mem_filterMap]
     exact ⟨.tmp t,by simpa using hx,rfl⟩
    | _=>rfl
   have hn2:(tD ops I s L (fun i=>listed.getD i false) ops.size).n=(cS ops I s j).n:=by rw [uf,Bq]
   have fin:fe P o (tD ops I s L (fun i=>listed.getD i false) ops.size) (I j).av (mu (I j) (tD ops I s L (fun i=>listed.getD i false) ops.size).H) →
     A8 P o a w (nt P .any ops Q fuel (listed.setIfInBounds j true)) Q:=by
    intro hdo
    refine hdo C m a w _ Q R fun v m' w' R' hv=>?_
    refine next m' _ w' ⟨_,R'.put (fun t ht=>by simp only; rw [hsn]; exact fd t ht) hv,fun t=>?_,?_,?_⟩ (by rw [put_defers]; exact hd)
    ·rw [eQ]; rfl
    ·rw [St.fQ]
    rw [St.jZ]; exact hsn
   have fresh:∀ k,(I j).c.mk=some k→(I j).c.mI k=true→(cS ops I s j).H.length=k→(tD ops I s L (fun i=>listed.getD i false) ops.size).H[k]? = some .dead∧(∀ t,bm k ((tD ops I s L (fun i=>listed.getD i false) ops.size).get t))∧(∀ (b:Nat) (c:List AV),(tD ops I s L (fun i=>listed.getD i false) ops.size).H[b]? = some (aL.own c)→∀ (q:Nat) (h:q < c.length),bm k c[q])∧∀ (b i j' : Nat),(tD ops I s L (fun i=>listed.getD i false) ops.size).H[b]? = some (aL.dx i j')→j' ≠ k:=by
    intro k hc htch hlk
    obtain ⟨k1,k2⟩:=hκ0 j k hjlt hc
    have hD:∀ i,i < ops.size→listed.getD i false=true→i ≠ j∧((dx ops).getD i 0).testBit j=false:=by
     intro i hi hli
     refine ⟨fun e=>by (subst e; rw [hnl'] at hli; cases hli),?_⟩
     rw [Bool.eq_false_iff]
     intro hb
     have:=hanc' i hli ops[i] (Array.getElem?_eq_getElem hi) j hb
     rw [this] at hnl'; cases hnl'
    have hno:∀ n,n≤ops.size→(∀ t,bm k ((tD ops I s L (fun i=>listed.getD i false) n).get t))∧(∀ (b:Nat) (c:List AV),aq (tD ops I s L (fun i=>listed.getD i false) n).H b=aL.own c→∀ (q:Nat) (h:q < c.length),bm k c[q])∧∀ (b i j' : Nat),aq (tD ops I s L (fun i=>listed.getD i false) n).H b=aL.dx i j'→j' ≠ k:=by
     intro n
     induction n with
     | zero =>
      intro _
      refine ⟨(hs0 k k1).1,fun b c hb=>?_,fun b i j' hb=>?_⟩
      ·simp only [tD] at hb
       by_cases hlt:b < s.H.length
       ·rw [aF hlt] at hb
        exact (hs0 k k1).2.1 b c (bj hb)
       rw [aY (by omega),ln] at hb
       cases hb
      simp only [tD] at hb
      by_cases hlt:b < s.H.length
      ·rw [aF hlt] at hb
       exact (hs0 k k1).2.2 b i j' (b9 hb (by simp))
      rw [aY (by omega),ln] at hb
      cases hb
     | succ n ihn =>
      intro hn
      obtain ⟨i1,i2,i3⟩:=ihn (by omega)
      refine ⟨fun t=>?_,fun b c hb=>?_,fun b i j' hb=>?_⟩
      ·rw [gZ]
       by_cases hh:listed.getD n false=true∧(bL ops n).dst=some t
       ·rw [if_pos hh]
        obtain ⟨d1,d2⟩:=hD n (by omega) hh.1
        exact (hnr j k hjlt hc n (by omega) d1 d2).1
       rw [if_neg hh]; exact i1 t
      ·rw [eO] at hb
       by_cases hh:listed.getD n false=true∧(I n).c.lu b=true∧b < s.H.length + L
       ·rw [if_pos hh] at hb
        obtain ⟨d1,d2⟩:=hD n (by omega) hh.1
        refine (hnr j k hjlt hc n (by omega) d1 d2).2 c ?_
        rcases wK (I n) b with h1 | h1
        ·rw [hb] at h1; cases h1
        rw [hb] at h1; exact h1
       rw [if_neg hh] at hb; exact i2 b c hb
      rw [eO] at hb
      by_cases hh:listed.getD n false=true∧(I n).c.lu b=true∧b < s.H.length + L
      ·rw [if_pos hh] at hb
       rcases wK (I n) b with h1 | h1
       ·rw [hb] at h1; cases h1
       rw [hb] at h1; exact absurd h1 (hna n (by omega) i j')
      rw [if_neg hh] at hb; exact i3 b i j' hb
    obtain ⟨n1,n2,n3⟩:=hno ops.size (Nat.le_refl _)
    have hkl:k < (tD ops I s L (fun i=>listed.getD i false) ops.size).H.length:=by rw [hTlen]; exact k2
    have hdead:aq (tD ops I s L (fun i=>listed.getD i false) ops.size).H k = .dead:=by
     rw [agreeH k htch]
     exact fX (by omega)
    exact ⟨mY hkl hdead,n1,fun b c hb=>n2 b c (jt hb),fun b i j' hb=>n3 b i j' (jt hb)⟩
   apply fin
   unfold sH at hloc
   unfold mu
   cases hc:(I j).c with
   | f=>rw [hc] at hloc; exact hloc _ hn2 hag
   | ld k=>rw [hc] at hloc; exact hloc.2 _ hn2 hag (agreeH k (by rw [hc]; simp [fg.mI]))
   | st k=>rw [hc] at hloc; exact hloc.2 _ hn2 hag (agreeH k (by rw [hc]; simp [fg.mI]))
   | ms l=>rw [hc] at hloc; exact hloc.2 _ hn2 hag fun p hp=>⟨by have h1:=hloc.1.1 p hp; have h2:=cM (ops:=ops) (I:=I) (s:=s) (show j≤ops.size by omega); rw [hTlen]; omega,agreeH p.1 (by rw [hc]; simp only [fg.mI]; exact List.any_eq_true.2 ⟨p,hp,by simp⟩)⟩
   | nw k =>
    rw [hc] at hloc
    obtain ⟨a1,a2,a3,a4⟩:=fresh k (by rw [hc]; rfl) (by rw [hc]; simp [fg.mI]) hloc.1.symm
    exact hloc.2 _ hn2 hag a1 a2 a3 a4
   | ap q k =>
    rw [hc] at hloc
    obtain ⟨a1,a2,a3,a4⟩:=fresh k (by rw [hc]; rfl) (by rw [hc]; simp [fg.mI]) hloc.1.2.symm
    exact hloc.2 _ hn2 hag (agreeH q (by rw [hc]; simp [fg.mI])) a1 a2 a3 a4
 refine key ops.size (Array.replicate ops.size false) m a w (by simp) ?_ ?_ ?_ hd
 ·have:∀ i∈List.range ops.size,(!(Array.replicate ops.size false).getD i true)=true:=by
   intro i hi
   have hi:i < ops.size:=by simpa using hi
   simp [Array.getD_eq_getD_getElem?,hi]
  rw [List.countP_eq_length.2 this]
  simp
 ·intro j o hj
  exfalso
  simp only [Array.getD_eq_getD_getElem?,Array.getElem?_replicate] at hj
  split at hj<;>simp at hj
 refine (R.pad L).congr (fun t=>?_) ?_ (uf _ _)
 ·refine mL _ t 0 ops.size (Nat.zero_le _) fun i _ hi h=>?_
  simp only [Array.getD_eq_getD_getElem?,Array.getElem?_replicate] at h
  split at h<;>simp at h
 refine jq (by rw [kD]; simp) fun b=>?_
 refine kY _ b 0 ops.size (Nat.zero_le _) fun i _ hi h=>?_
 simp only [Array.getD_eq_getD_getElem?,Array.getElem?_replicate] at h
 split at h<;>simp at h
end
section
variable {P:Program} {T:TypeId→Option TI}
def kC:List AV→Bool
 | []=>true
 | .p _ :: r=>kC r
 | _=>false
theorem oP (H H2:aw):∀ l:List AV,kC l=true→jo H2 l=jo H l
 | [],_=>rfl
 | x :: r,h=>by
  cases x with
  | p v =>
   have ih:=oP H H2 r h
   simp only [jo,uy,ih]
  | _=>simp [kC] at h
def jr (s:St):Op→Option fg
 | .load _ x=>match s.ev x with | .ptr k _=>some (.ld k) | .p (.ptr _)=>some .f | _=>none
 | .store _ x _=>match s.ev x with | .ptr k _=>some (.st k) | _=>none
 | .alloc _=>some (.nw s.H.length)
 | .call { callee:=.builtin .append,args,.. }=>match args.toList.map s.ev with | [.sl k _ _,.p _]=>some (.ap k s.H.length) | _=>none
 | .lookup _ x _ _=>match s.ev x with | .mptr k=>some (.ld k) | _=>none
 | .makeFunc _ _ caps=>bif kC (caps.toList.map s.ev) then some .f else none
 | op=>bif jF op then none else some .f
def fb (c:fg) (H:aw):aL:=
 match c with
 | .st k=>aq H k
 | .nw k=>aq H k
 | .ap _ k=>aq H k
 | _=>.dead
theorem sd (κ:Nat) (v:Value):bm κ (cv v):=by
 unfold cv; split<;>constructor
theorem td {ti:TI} {H:aw} {k lo len:Nat} {v:PV} {r:OV} (h:gC T ti H (.sl k lo len) (.p v)=some r) :
  ∃ (cc:List AV) (xs:List PV) (V:Prop),aq H k = .own cc∧∀ H2:aw,aq H2 k = .own cc→gC T ti H2 (.sl k lo len) (.p v)=some ⟨V,.sl H2.length 0 (len + xs.length),aE H2 k .dead++[.own ((cc.drop lo).take len++xs.map .p)]⟩:=by
 unfold gC at h ⊢
 cases hk:ti.kind with
 | slice e =>
  rw [hk] at h
  simp only at h ⊢
  cases hte:T e with
  | none=>rw [hte] at h; cases h
  | some te =>
   rw [hte] at h
   simp only at h ⊢
   cases hg:aq H k with
   | dead=>rw [hg] at h; cases v<;>simp [cY] at h
   | mp _ _ _=>rw [hg] at h; cases v<;>simp [cY] at h
   | dx _ _=>rw [hg] at h; cases v<;>simp [cY] at h
   | lp _=>rw [hg] at h; cases v<;>simp [cY] at h
   | fro d=>rw [hg] at h; cases v<;>simp [cY] at h
   | own cc =>
    cases v with
    | list l=>exact ⟨cc,l,_,rfl,fun H2 h2=>by simp only [cY,h2,List.length_map]; rfl⟩
    | nn l=>exact ⟨cc,l,_,rfl,fun H2 h2=>by simp only [cY,h2,List.length_map]; rfl⟩
    | nil=>exact ⟨cc,[],_,rfl,fun H2 h2=>by simp only [cY,h2,List.length_nil,List.map_nil]; rfl⟩
    | _=>rw [hg] at h; simp [cY] at h
 | _=>rw [hk] at h; cases h
theorem sG {ti:TI} {ok:Bool} {H:aw} {k:Nat} {y:AV} {r:OV} (h:fC T ti ok H (.mptr k) y=some r):k < H.length∧∀ H2:aw,aq H2 k=aq H k→fC T ti ok H2 (.mptr k) y=some { r with H:=H2 }:=by
 unfold fC at h ⊢
 split at h
 ·split at h
  ·simp only at h
   split at h
   ·rename_i kk d v zp hg hz
    simp only [Option.some.injEq] at h
    subst h
    refine ⟨(List.getElem?_eq_some_iff.1 (b9 hg (by simp))).1,fun H2 h2=>?_⟩
    simp_all
   cases h
  cases h
 cases h
theorem yh (hT:∀ t ti,T t=some ti→bq P t=some ti) {o:Oper} {s:St} {r:OV} {c:fg} (hc:jr s o.op=some c) (h:bW T s o.op=some r) (hvc:r.vc) :
  sH P o s ⟨c,r.av,fb c r.H,false⟩∧r.H=kh ⟨c,r.av,fb c r.H,false⟩ s.H:=by
 have free:jF o.op=false→c = .f→sH P o s ⟨c,r.av,fb c r.H,false⟩∧r.H=kh ⟨c,r.av,fb c r.H,false⟩ s.H:=by
  rintro hf rfl
  refine ⟨?_,(iS hf h).1⟩
  intro s2 hn ha
  have h1:=(iS hf h).2 s2.H
  have:=mi (T:=T) (s:={ s with H:=s2.H }) (s2:=s2) (op:=o.op) (fun x hx=>by rw [ha x hx]; cases x<;>rfl) rfl
  rw [h1] at this
  exact (dL hT this hvc).wp
 generalize hop:o.op=op at *
 cases op with
 | makeFunc fn first caps =>
  simp only [jr] at hc
  cases hp:kC (caps.toList.map s.ev) with
  | false=>rw [hp] at hc; cases hc
  | true =>
   rw [hp] at hc
   simp only [cond_true,Option.some.injEq] at hc
   subst hc
   have hr:r.H=s.H:=by
    cases fn with
    | func f =>
     simp only [bW] at h
     cases hf:first.isEmpty<;>rw [hf] at h
     ·cases h
     exact mR h
    | _=>simp [bW] at h
   refine ⟨?_,hr⟩
   intro s2 hn ha
   have h2:bW T s2 o.op=some { r with H:=s2.H }:=by
    rw [hop]
    have hm:caps.toList.map s2.ev=caps.toList.map s.ev:=List.map_congr_left fun x hx=>ha x (by rw [hop]; simp only [Op.operands]; simp; right; simpa using hx)
    cases fn with
    | func f =>
     simp only [bW] at h ⊢
     cases hf:first.isEmpty<;>rw [hf] at h
     ·cases h
     simp only [cond_true] at h ⊢
     rw [hm]
     unfold eH at h ⊢
     rw [oP s.H s2.H _ hp]
     cases hcp:jo s.H (caps.toList.map s.ev) with
     | none=>rw [hcp] at h; cases h
     | some x=>rw [hcp] at h; obtain ⟨p1,l1⟩:=x; simp only [Option.some.injEq] at h ⊢; subst h; rfl
    | _=>simp [bW] at h
   exact (dL hT h2 hvc).wp
 | lookup t x y ok =>
  simp only [jr] at hc
  simp only [bW] at h
  cases hti:T t with
  | none=>rw [hti] at h; cases h
  | some ti =>
   rw [hti] at h
   simp only at h
   have hx:∀ s2:St,fx o s s2→s2.ev x=s.ev x:=fun s2 ha=>ha x (by rw [hop]; simp [Op.operands])
   have hy:∀ s2:St,fx o s s2→s2.ev y=s.ev y:=fun s2 ha=>ha y (by rw [hop]; simp [Op.operands])
   cases hev:s.ev x with
   | mptr k =>
    rw [hev] at hc h
    simp only [Option.some.injEq] at hc
    subst hc
    obtain ⟨hkl,hloc⟩:=sG h
    refine ⟨⟨hkl,fun s2 hn ha hH=>?_⟩,qq h⟩
    have h2:bW T s2 o.op=some { r with H:=s2.H }:=by
     rw [hop]
     simp only [bW,hti,hx s2 ha,hy s2 ha,hev]
     exact hloc s2.H hH
    exact (dL hT h2 hvc).wp
   | _=>rw [hev] at hc; cases hc
 | load t x =>
  simp only [jr] at hc
  simp only [bW] at h
  cases hti:T t with
  | none=>rw [hti] at h; cases h
  | some ti =>
   rw [hti] at h
   simp only at h
   have hx:∀ s2:St,fx o s s2→s2.ev x=s.ev x:=fun s2 ha=>ha x (by rw [hop]; simp [Op.operands])
   cases hev:s.ev x with
   | ptr k i =>
    rw [hev] at hc h
    simp only [Option.some.injEq] at hc
    subst hc
    have hkl:k < s.H.length:=by
     simp only [iN] at h
     cases hg:aq s.H k with
     | dead=>rw [hg] at h; cases h
     | mp _ _ _=>rw [hg] at h; cases h
     | dx _ _=>rw [hg] at h; cases h
     | lp _=>rw [hg] at h; cases h
     | own d=>exact (List.getElem?_eq_some_iff.1 (bj hg)).1
     | fro d=>exact (List.getElem?_eq_some_iff.1 (gj hg)).1
    refine ⟨⟨hkl,fun s2 hn ha hH=>?_⟩,qB h⟩
    have h2:bW T s2 o.op=some { r with H:=s2.H }:=by
     rw [hop]
     simp only [bW,hti,hx s2 ha,hev]
     simp only [iN] at h ⊢
     rw [hH]
     cases hg:aq s.H k with
     | dead=>rw [hg] at h; cases h
     | mp _ _ _=>rw [hg] at h; cases h
     | dx _ _=>rw [hg] at h; cases h
     | lp _=>rw [hg] at h; cases h
     | own d=>rw [hg] at h; cases hr:da ti.kind<;>rw [hr] at h<;>simp only [cond_true,cond_false,Option.some.injEq] at h ⊢<;>subst h<;>rfl
     | fro d=>rw [hg] at h; cases hr:da ti.kind<;>rw [hr] at h<;>simp only [cond_true,cond_false,Option.some.injEq] at h ⊢<;>subst h<;>rfl
    exact (dL hT h2 hvc).wp
   | p v =>
    rw [hev] at hc h
    cases v with
    | ptr d =>
     simp only [Option.some.injEq] at hc
     subst hc
     refine ⟨?_,qB h⟩
     intro s2 hn ha
     have h2:bW T s2 o.op=some { r with H:=s2.H }:=by
      rw [hop]
      simp only [bW,hti,hx s2 ha,hev]
      simp only [iN] at h ⊢
      cases hr:da ti.kind<;>rw [hr] at h<;>simp only [cond_true,cond_false,Option.some.injEq] at h ⊢<;>subst h<;>rfl
     exact (dL hT h2 hvc).wp
    | _=>cases hc
   | _=>rw [hev] at hc; cases hc
 | store t x v =>
  simp only [jr] at hc
  simp only [bW] at h
  cases hti:T t with
  | none=>rw [hti] at h; cases h
  | some ti =>
   rw [hti] at h
   simp only at h
   have hx:∀ s2:St,fx o s s2→s2.ev x=s.ev x:=fun s2 ha=>ha x (by rw [hop]; simp [Op.operands])
   have hv:∀ s2:St,fx o s s2→s2.ev v=s.ev v:=fun s2 ha=>ha v (by rw [hop]; simp [Op.operands])
   cases hev:s.ev x with
   | ptr k i =>
    rw [hev] at hc h
    simp only [Option.some.injEq] at hc
    subst hc
    simp only [j8] at h
    cases hg:aq s.H k with
    | dead=>rw [hg] at h; cases h
    | mp _ _ _=>rw [hg] at h; cases h
    | dx _ _=>rw [hg] at h; cases h
    | lp _=>rw [hg] at h; cases h
    | fro d=>rw [hg] at h; cases h
    | own d =>
     rw [hg] at h
     simp only [Option.some.injEq] at h
     have hkl:k < s.H.length:=(List.getElem?_eq_some_iff.1 (bj hg)).1
     have hb:aq r.H k = .own (iy d i (s.ev v).cells):=by
      rw [← h]; simp only; rw [fZ _ _ _ hkl]
     refine ⟨⟨hkl,fun s2 hn ha hH=>?_⟩,?_⟩
     ·have h2:bW T s2 o.op=some { r with H:=aE s2.H k (.own (iy d i (s.ev v).cells)) }:=by
       rw [hop]
       simp only [bW,hti,hx s2 ha,hv s2 ha,hev,j8,hH,hg]
       rw [← h]
      simp only [fb]
      rw [hb]
      exact (dL hT h2 hvc).wp
     simp only [kh,fb]
     rw [hb,← h]
   | p v=>rw [hev] at hc; cases hc
   | dead=>rw [hev] at hc; cases hc
   | sl _ _ _=>rw [hev] at hc; cases hc
   | agg _=>rw [hev] at hc; cases hc
   | tup _=>rw [hev] at hc; cases hc
   | cl _ _=>rw [hev] at hc; cases hc
   | lJ _=>rw [hev] at hc; cases hc
   | sls _ _ _ _=>rw [hev] at hc; cases hc
   | mptr _=>rw [hev] at hc; cases hc
   | yv _ _ _=>rw [hev] at hc; cases hc
 | alloc t =>
  simp only [jr,Option.some.injEq] at hc
  subst hc
  simp only [bW] at h
  cases hti:T t with
  | none=>rw [hti] at h; cases h
  | some ti =>
   rw [hti] at h
   simp only [Option.some.injEq] at h
   have hb:aq r.H s.H.length = .own (ti.zero.map cv):=by
    rw [← h]; simp only [gH]; rw [aY (Nat.le_refl _),Nat.sub_self]; rfl
   refine ⟨⟨rfl,fun s2 hn ha hd n1 n2 n3=>?_⟩,?_⟩
   ·simp only [fb]
    rw [hb]
    have hav:r.av = .ptr s.H.length 0:=by rw [← h]; rfl
    rw [hav]
    have hvc' : (gH ti s2.H).vc:=by
     have:(gH ti s.H).vc:=by rw [h]; exact hvc
     exact this
    refine Al.wp fun C m a w R=>?_
    obtain ⟨v,w',m',hy,R',hv⟩:=mJ hT R (o:=o) hop hti hvc'
    obtain ⟨g1,g2,_⟩:=Rel.move R (b:=.own (ti.zero.map cv)) R' hd n3 (fun _ _ h=>by cases h) n1 n2 fun c hc i hi=>by
     cases hc
     rw [List.getElem_map]
     exact ⟨sd _ _,sd _ _⟩
    exact ⟨v,w',_,hy,g1,g2 0 v hv⟩
   simp only [kh,fb]
   rw [hb,← h]; rfl
 | call c' =>
  obtain ⟨callee,args,ts⟩:=c'
  have other:jr s (.call ⟨callee,args,ts⟩)=(bif jF (.call ⟨callee,args,ts⟩) then none else some .f)→sH P o s ⟨c,r.av,fb c r.H,false⟩∧r.H=kh ⟨c,r.av,fb c r.H,false⟩ s.H:=by
   intro e
   rw [e] at hc
   cases hf:jF (.call ⟨callee,args,ts⟩) with
   | true=>rw [hf] at hc; cases hc
   | false=>rw [hf] at hc; exact free hf (by simpa using hc.symm)
  cases callee with
  | builtin b =>
   cases b with
   | append =>
    simp only [jr] at hc
    split at hc<;>simp only [Option.some.injEq,reduceCtorEq] at hc
    rename_i k lo len v hl
    subst hc
    have hev:∀ s2:St,fx o s s2→args.toList.map s2.ev=[.sl k lo len,.p v]:=by
     intro s2 ha
     rw [← hl]
     exact List.map_congr_left fun x hx=>ha x (by rw [hop]; simp [Op.operands,Call.operands]; simpa using hx)
    simp only [bW] at h
    rw [hl] at h
    obtain ⟨t,ti,hts,hti,h⟩:∃ t ti,ts.toList=[t,t]∧T t=some ti∧gC T ti s.H (.sl k lo len) (.p v)=some r:=by
     unfold cH at h
     split at h<;>simp only [reduceCtorEq] at *
     rename_i a1 a2 sv xv t t' ea e2 e3
     simp only [List.cons.injEq,and_true] at ea
     obtain ⟨rfl,rfl⟩:=ea
     cases hti:T t with
     | none=>rw [hti] at h; cases h
     | some ti =>
      rw [hti] at h
      simp only at h
      by_cases ht:t=t'
      ·rw [if_pos ht] at h; subst ht; exact ⟨t,ti,e2,hti,h⟩
      rw [if_neg ht] at h; cases h
    obtain ⟨cc,xs,V,hg,hall⟩:=td h
    have hr:r=⟨V,.sl s.H.length 0 (len + xs.length),aE s.H k .dead++[.own ((cc.drop lo).take len++xs.map .p)]⟩:=by
     have:=hall s.H hg
     rw [h] at this
     exact Option.some.inj this
    have hkl:k < s.H.length:=(List.getElem?_eq_some_iff.1 (bj hg)).1
    have hb:aq r.H s.H.length = .own ((cc.drop lo).take len++xs.map .p):=by
     rw [hr]; simp only; rw [aY (by rw [aB]; exact Nat.le_refl _),aB,Nat.sub_self]; rfl
    have hV:V:=by rw [hr] at hvc; exact hvc
    refine ⟨⟨⟨hkl,rfl⟩,fun s2 hn ha hH hd n1 n2 n3=>?_⟩,?_⟩
    ·simp only [fb]
     rw [hb,hr]
     rw [hg] at hH
     have h2:bW T s2 o.op=some ⟨V,.sl s2.H.length 0 (len + xs.length),aE s2.H k .dead++[.own ((cc.drop lo).take len++xs.map .p)]⟩:=by
      rw [hop]
      simp only [bW]
      rw [hev s2 ha,hts]
      simp only [cH,hti,if_true]
      exact hall s2.H hH
     have hkne:k ≠ s.H.length:=by omega
     have hdd:(aE s2.H k .dead)[s.H.length]? = some .dead:=by
      rw [cr,if_neg (fun hh=>hkne hh.1.symm)]; exact hd
     refine Al.wp fun C m a w R=>?_
     obtain ⟨v',w',m',hy,R',hv⟩:=dL hT h2 hV C m a w R
     have hlen:(aE s2.H k .dead).length=s2.H.length:=aB _ _ _
     have hown:∀ (j:Nat) (c:List AV),(aE s2.H k .dead)[j]? = some (aL.own c)→s2.H[j]? = some (aL.own c):=by
      intro j c hj
      rw [cr] at hj
      by_cases e:j=k∧k < s2.H.length
      ·rw [if_pos e] at hj; cases hj
      rw [if_neg e] at hj; exact hj
     obtain ⟨g1,_,g2⟩:=Rel.move (s:={ s2 with H:=aE s2.H k .dead }) (R.kill k) (b:=.own ((cc.drop lo).take len++xs.map .p)) R' hdd (fun b i j hj=>n3 b i j (by rw [cr] at hj; by_cases e:b=k∧k < s2.H.length; (rw [if_pos e] at hj; cases hj); (rw [if_neg e] at hj; exact hj))) (fun _ _ h=>by cases h) n1 (fun j c hj=>n2 j c (hown j c hj)) fun c hc i hi=>by
      cases hc
      have hcc:=bj hH
      by_cases hlt:i < ((cc.drop lo).take len).length
      ·rw [List.getElem_append_left hlt]
       simp only [List.getElem_take,List.getElem_drop]
       have hi2:lo + i < cc.length:=by
        simp only [List.length_take,List.length_drop] at hlt; omega
       refine ⟨n2 k cc hcc _ hi2,?_⟩
       simp only [hlen]
       rcases R.blk k cc hcc with ⟨b1,_⟩ | ⟨l2,cur2,e2,_,_,_,_,_,_,b7⟩
       ·subst b1; simp at hi2
       exact (b7 _ hi2).sj (Nat.le_refl _)
      rw [List.getElem_append_right (by omega),List.getElem_map]
      exact ⟨.p _,.p _⟩
     simp only [hlen] at g1 g2 hv
     exact ⟨v',w',_,hy,g1,g2 _ _ v' hv⟩
    simp only [kh,fb]
    rw [hb,hr]
   | _=>exact other rfl
  | _=>exact other rfl
 | _=>simp only [jr] at hc; first|(simp only [jF,cond_true,cond_false,Option.some.injEq,reduceCtorEq] at hc; done)|exact free rfl (by simpa [jF] using hc.symm)
inductive X2 where
 | run (vc:Prop) (s:St) (acc:List I2)
 | stop (vc:Prop) (rest:List Oper) (s:St) (acc:List I2)
def uN (T:TypeId→Option TI) (all:Array Oper) (o:Oper) (rest:List Oper) (vc:Prop) (s:St) (acc:List I2):X2:=
 match bw all s o with
 | some true =>
  match jr s o.op,bW T s o.op with
  | some c,some r=>.run (vc∧ay s o.dst∧r.vc) (after o s r) (acc++[⟨c,r.av,fb c r.H,false⟩])
  | _,_=>.stop vc (o :: rest) s acc
 | some false=>.run (vc∧ay s o.dst) (s.put o.dst (.p (.tup []))) (acc++[⟨.f,.p (.tup []),.dead,false⟩])
 | none=>.stop vc (o :: rest) s acc
def mK (T:TypeId→Option TI) (all:Array Oper):List Oper→X2→X2
 | [],x=>x
 | o :: r,.run vc s acc=>mK T all r (uN T all o r vc s acc)
 | _ :: _,.stop vc rest s acc=>.stop vc rest s acc
def oe (P:Program) (all:Array Oper) (rest:List Oper) (K:St→List I2→Prop) (s:St) (acc:List I2):Prop:=∃ s' xs,tu P all rest xs s s'∧K s' (acc++xs)
def By (P:Program) (all:Array Oper) (K:St→List I2→Prop):X2→Prop
 | .run vc s acc=>vc∧K s acc
 | .stop vc rest s acc=>vc∧oe P all rest K s acc
theorem ox (all:Array Oper) (l:List Oper) (vc:Prop) (rest:List Oper) (s:St) (acc:List I2):mK T all l (.stop vc rest s acc) = .stop vc rest s acc:=by cases l<;>rfl
theorem iZ (hT:∀ t ti,T t=some ti→bq P t=some ti) {all:Array Oper} {K:St→List I2→Prop} : ∀ (ops:List Oper) (vc:Prop) (s:St) (acc:List I2),By P all K (mK T all ops (.run vc s acc))→vc∧oe P all ops K s acc
 | [],vc,s,acc,h=>⟨h.1,s,[],.nil s,by rw [List.append_nil]; exact h.2⟩
 | o :: r,vc,s,acc,h=>by
  simp only [mK,uN] at h
  split at h
  ·rename_i hg
   split at h
   ·rename_i c ov hcl hov
    obtain ⟨⟨h1,h2,h3⟩,s',xs,hr,hK⟩:=iZ hT r _ _ _ h
    obtain ⟨g1,g2⟩:=yh hT hcl hov h3
    refine ⟨h1,s',_ :: xs,.op hg (cP h2) g1 (fun h=>by cases h) ?_,by rw [List.append_assoc] at hK; exact hK⟩
    rw [← g2]
    exact hr
   rw [ox] at h; exact h
  ·rename_i hg
   obtain ⟨⟨h1,h2⟩,s',xs,hr,hK⟩:=iZ hT r _ _ _ h
   exact ⟨h1,s',_ :: xs,.skip hg (cP h2) hr,by rw [List.append_assoc] at hK; exact hK⟩
  rw [ox] at h; exact h
theorem dY (hT:∀ t ti,T t=some ti→bq P t=some ti) {all:Array Oper} {rest:List Oper} {K:St→List I2→Prop} {s:St} {acc:List I2} (h:By P all K (mK T all rest (.run True s acc))):oe P all rest K s acc:=
 (iZ hT rest True s acc h).2
def Gx:AV→Bool
 | .p _=>true
 | _=>false
theorem fS {all:Array Oper} {rest:List Oper} {K:St→List I2→Prop} {acc:List I2} {s:St} {dst:Option Tmp} {ty:TypeId} {pos:String} {aft:Array Edge} {gd:Option (Nat × Bool)} {fo:Operand} {args:Array Operand} {ts:Array TypeId} {g:FuncId} {avs:List PV} {p:Prop} {b:Bool} {r:PV}
  (hc:cL P g avs r) (hg:bw all s { dst:=dst,op:=.call { callee:=.value fo,args:=args,argTypes:=ts },type:=ty,pos:=pos,after:=aft,guard:=gd } = some true)
  (hcall:gr s fo args=some (g,avs,p,b)) (hb:(b || r.fU)=true) (hpure:args.toList.all (fun x=>Gx (s.ev x))=true) (hd:ay s dst) (hp:p) (h:oe P all rest K (s.put dst (.p r)) (acc++[⟨.f,.p r,.dead,false⟩])) :
  oe P all ({ dst:=dst,op:=.call { callee:=.value fo,args:=args,argTypes:=ts },type:=ty,pos:=pos,after:=aft,guard:=gd } :: rest) K s acc:=by
 obtain ⟨s',xs,hr,hK⟩:=h
 refine ⟨s',⟨.f,.p r,.dead,false⟩ :: xs,.op hg (cP hd) ?_ (fun h=>by cases h) hr,by rw [List.append_assoc] at hK; exact hK⟩
 intro s2 hn ha
 have ha' : ∀ x∈(Op.call { callee:=.value fo,args:=args,argTypes:=ts }).operands,s2.ev x=s.ev x:=ha
 simp only [Op.operands,Call.operands] at ha'
 have h1:s2.ev fo=s.ev fo:=ha' fo (by simp)
 have h2:args.toList.map s2.ev=args.toList.map s.ev:=List.map_congr_left fun x hx=>ha' x (by simp; right; simpa using hx)
 have h3:∀ l:List AV,l.all Gx=true→cq (dK s2.H) l=cq (dK s.H) l:=by
  intro l
  induction l with
  | nil=>intro _; rfl
  | cons x l ih =>
   intro hl
   simp only [List.all_cons,Bool.and_eq_true] at hl
   simp only [cq]
   rw [ih hl.2]
   cases x with
   | p v=>rfl
   | _=>simp [Gx] at hl
 have:gr s2 fo args=some (g,avs,p,b):=by
  rw [← hcall]
  unfold gr
  rw [h1,h2,h3 _ (by rw [List.all_map]; exact hpure)]
 exact mw rfl hc this hp hb
def EM (k:Nat):AV→Bool
 | .p _=>true
 | .sl j _ _=>j == k
 | _=>false
theorem sZ {all:Array Oper} {K:St→List I2→Prop} {vc:Prop} {s:St} {acc:List I2} (h1:vc) (h2:K s acc):By P all K (.run vc s acc):=⟨h1,h2⟩
theorem gV {all:Array Oper} {K:St→List I2→Prop} {vc:Prop} {r:List Oper} {s:St} {acc:List I2} (h1:vc) (h2:oe P all r K s acc):By P all K (.stop vc r s acc):=⟨h1,h2⟩
theorem tO {Q:Exit→St→Prop} {s:St} {id:Nat} {l:List Oper} (hm:P.follows .mixedOrders=true) (h:∀ K:St→List I2→Prop,(∀ s' xs,kV l.toArray xs=true→Q .normal s'→K s' xs)→oe P l.toArray l K s []):Holds P (.region id l.toArray true) Q s:=by
 intro r ds C m a w R hd
 obtain ⟨s',xs,hr,hK⟩:=h (fun s' xs=>kV l.toArray xs=true∧Q .normal s') fun _ _ h1 h2=>⟨h1,h2⟩
 rw [List.nil_append] at hK
 refine jb hm ?_
 exact r8 hK.1 (by simpa using hr) (R.later ⟨rfl,rfl,rfl,Nat.le_refl _,fun _ _=>rfl,Nat.le_succ _⟩) hd fun m' a' w' R' hd'=>⟨s',m',hK.2,R',hd'⟩
end
def EP:=And.intro @mK.eq_1
 <| And.intro @mK.eq_2
 <| And.intro @mK.eq_3
 <| And.intro @uN.eq_1
 <| And.intro @jr.eq_1
 <| And.intro @jr.eq_2
 <| And.intro @jr.eq_3
 <| And.intro @jr.eq_4
 <| And.intro @jr.eq_5
 <| And.intro @jr.eq_6
 <| And.intro @jr.eq_7
 <| And.intro @kC.eq_1
 <| And.intro @kC.eq_2
 <| And.intro @fb.eq_1
 <| And.intro @fb.eq_2
 <| And.intro @fb.eq_3
 <| And.intro @fb.eq_4
 <| And.intro @jF.eq_1
 <| And.intro @jF.eq_2
 <| And.intro @jF.eq_3
 <| And.intro @jF.eq_4
 <| And.intro @jF.eq_5
 <| And.intro @jF.eq_6
 <| And.intro @jF.eq_7
 <| And.intro @jF.eq_8
 <| And.intro @jF.eq_9
 <| And.intro @jF.eq_10
 <| And.intro @jF.eq_11
 <| And.intro @jF.eq_12
 <| And.intro @jF.eq_13
 <| And.intro @jF.eq_14
 <| And.intro @jF.eq_15
 <| And.intro @jF.eq_16
 <| And.intro @jF.eq_17
 <| And.intro @Gx.eq_1
 <| And.intro @Gx.eq_2
 <| And.intro @EM.eq_1
 <| And.intro @EM.eq_2
 <| And.intro @EM.eq_3
 <| And.intro @cond_true.{0}
 <| @cond_false.{0}
def qa:=@Ha
def qb:=@Gs
def qc:=@F8
def qd:=@GF
def qe:=@Gm
def qf:=@Gi
def qh:=@Bz
def qj:=@CF
def qk:=@D5
def ql:=@yY
def qm:=@EV
def qs:=@zK
end Go.Pv
namespace Go.Proofs.YtjlmpmidchddjaaDoor
open Lean.Grind
attribute [local instance] Lean.Grind.Semiring.natCast Lean.Grind.Ring.intCast
section
variable {K:Type} [CommRing K]
def sm (f:Nat→K):Nat→K
 | 0=>0
 | n + 1=>sm f n + f n
theorem ai {f g:Nat→K} {n:Nat} (h:∀ i,i < n→f i=g i):sm f n=sm g n:=by
 induction n with
 | zero=>rfl
 | succ n ih=>rw [sm,sm,ih fun i hi=>h i (by omega),h n (by omega)]
theorem aS {f:Nat→K} {n:Nat} (h:∀ i,i < n→f i=0):sm f n=0:=by
 induction n with
 | zero=>rfl
 | succ n ih=>rw [sm,ih fun i hi=>h i (by omega),h n (by omega)]; grind
theorem iX (f g:Nat→K) (n:Nat):sm (fun i=>f i + g i) n=sm f n + sm g n:=by
 induction n with
 | zero=>simp only [sm]; grind
 | succ n ih=>simp only [sm,ih]; grind
theorem jc (f g:Nat→K) (n:Nat):sm (fun i=>f i - g i) n=sm f n - sm g n:=by
 induction n with
 | zero=>simp only [sm]; grind
 | succ n ih=>simp only [sm,ih]; grind
theorem aK (k:K) (f:Nat→K) (n:Nat):sm (fun i=>k * f i) n=k * sm f n:=by
 induction n with
 | zero=>simp only [sm]; grind
 | succ n ih=>simp only [sm,ih]; grind
theorem bI (k:K) (f:Nat→K) (n:Nat):sm (fun i=>f i * k) n=sm f n * k:=by
 induction n with
 | zero=>simp only [sm]; grind
 | succ n ih=>simp only [sm,ih]; grind
theorem aU (f:Nat→Nat→K) (n m:Nat):sm (fun i=>sm (fun j=>f i j) m) n=sm (fun j=>sm (fun i=>f i j) n) m:=by
 induction n with
 | zero=>simp only [sm]; exact (aS fun _ _=>rfl).symm
 | succ n ih=>simp only [sm,ih,iX]
theorem ba {f:Nat→K} {n i:Nat} (hi:i < n) (h:∀ j,j < n→j ≠ i→f j=0):sm f n=f i:=by
 induction n with
 | zero=>omega
 | succ n ih =>
  rw [sm]
  by_cases e:i=n
  ·subst e
   rw [aS fun j hj=>h j (by omega) (by omega)]; grind
  rw [ih (by omega) fun j hj=>h j (by omega),h n (by omega) (by omega)]; grind
theorem bQ (k:K) (n:Nat):sm (fun _=>k) n=(n:K) * k:=by
 induction n with
 | zero=>simp only [sm]; grind
 | succ n ih=>simp only [sm,ih]; grind
def sl (l:List Nat) (f:Nat→K):K:=l.foldr (fun x r=>f x + r) 0
theorem cm (x:Nat) (l:List Nat) (f:Nat→K):sl (x :: l) f=f x + sl l f:=rfl
theorem Fh (l l' : List Nat) (f:Nat→K):sl (l++l') f=sl l f + sl l' f:=by
 induction l with
 | nil=>simp only [List.nil_append,sl,List.foldr_nil]; grind
 | cons x l ih=>simp only [List.cons_append,cm,ih]; grind
theorem cD (f:Nat→K) (n:Nat):sl (List.range n) f=sm f n:=by
 induction n with
 | zero=>rfl
 | succ n ih=>rw [List.range_succ,Fh,ih,sm,cm]; simp only [sl,List.foldr_nil]; grind
theorem BN {l l' : List Nat} (h:l.Perm l') (f:Nat→K):sl l f=sl l' f:=by
 induction h with
 | nil=>rfl
 | cons x _ ih=>rw [cm,cm,ih]
 | swap x y l=>simp only [cm]; grind
 | trans _ _ h1 h2=>rw [h1,h2]
theorem FI (l:List Nat) (σ:Nat→Nat) (f:Nat→K):sl (l.map σ) f=sl l fun x=>f (σ x):=by
 induction l with
 | nil=>rfl
 | cons x l ih=>rw [List.map_cons,cm,cm,ih]
theorem eh:∀ {l l' : List Nat},l.Nodup→(∀ x∈l,x∈l')→l'.length≤l.length→l.Perm l'
 | [],l',_,_,h=>by
  have:l' = []:=List.length_eq_zero_iff.1 (by simpa using h)
  rw [this]
 | x :: l,l',h1,h2,h3=>by
  obtain ⟨h1a,h1b⟩:=List.nodup_cons.1 h1
  have hx:x∈l':=h2 x (by simp)
  have hp:=List.perm_cons_erase hx
  refine (List.Perm.cons x (eh h1b (fun y hy=>?_) ?_)).trans hp.symm
  ·have hne:y ≠ x:=fun e=>h1a (e ▸ hy)
   exact (List.mem_erase_of_ne hne).2 (h2 y (by simp [hy]))
  rw [List.length_erase_of_mem hx]
  simp at h3; omega
theorem mh {σ:Nat→Nat} {n:Nat} (h1:∀ i,i < n→σ i < n) (h2:∀ i j,i < n→j < n→σ i=σ j→i=j) (f:Nat→K):sm (fun i=>f (σ i)) n=sm f n:=by
 rw [← cD,← cD,← FI]
 refine BN (eh ?_ (fun x hx=>?_) (by simp)) f
 ·rw [List.nodup_iff_pairwise_ne,List.pairwise_map]
  refine (List.nodup_iff_pairwise_ne.1 (List.nodup_range (n:=n))).imp_of_mem fun {a b} ha hb hab e=>hab (h2 a b (List.mem_range.1 ha) (List.mem_range.1 hb) e)
 obtain ⟨i,hi,rfl⟩:=List.mem_map.1 hx
 exact List.mem_range.2 (h1 i (List.mem_range.1 hi))
def nr (K:Type) [CommRing K]:Prop:=(∀ a:K,a ≠ 0→∃ b,a * b=1)∧(1:K) ≠ 0
theorem nr.mul {K:Type} [CommRing K] (h:nr K) {a b:K} (hab:a * b=0):a=0∨b=0:=by
 by_cases ha:a=0
 ·exact .inl ha
 obtain ⟨c,hc⟩:=h.1 a ha
 exact .inr (by grind)
theorem wa (F:nr K):∀ (r:Nat) (A:Nat→Nat→K),∃ x:Nat→K,(∃ j,j≤r∧x j ≠ 0)∧∀ i,i < r→sm (fun j=>A i j * x j) (r + 1)=0
 | 0,A=>⟨fun _=>1,⟨0,Nat.le_refl _,F.2⟩,fun i hi=>absurd hi (Nat.not_lt_zero _)⟩
 | r + 1,A=>by
  by_cases h:∃ i0,i0 < r + 1∧A i0 (r + 1) ≠ 0
  ·obtain ⟨i0,h1,h2⟩:=h
   obtain ⟨b,hb⟩:=F.1 _ h2
   obtain ⟨x,⟨j0,hj0,hx0⟩,hx⟩:=wa F r fun i j=>A (if i < i0 then i else i + 1) j - A (if i < i0 then i else i + 1) (r + 1) * b * A i0 j
   obtain ⟨y,hy⟩:∃ y,y = -b * sm (fun j=>A i0 j * x j) (r + 1):=⟨_,rfl⟩
   refine ⟨fun j=>if j=r + 1 then y else x j,⟨j0,by omega,by show (if j0=r + 1 then y else x j0) ≠ 0; rw [if_neg (by omega)]; exact hx0⟩,fun i hi=>?_⟩
   have e1:∀ i,sm (fun j=>A i j * (if j=r + 1 then y else x j)) (r + 1)=sm (fun j=>A i j * x j) (r + 1):=fun i=>ai fun j hj=>by rw [if_neg (by omega)]
   rw [sm,e1]
   show _ + A i (r + 1) * (if r + 1=r + 1 then y else x (r + 1))=0
   rw [if_pos rfl]
   by_cases e:i=i0
   ·subst e
    rw [hy]; grind
   have h3:∃ i',i' < r∧(if i' < i0 then i' else i' + 1)=i:=by
    by_cases h4:i < i0
    ·exact ⟨i,by omega,if_pos h4⟩
    exact ⟨i - 1,by omega,by rw [if_neg (by omega)]; omega⟩
   obtain ⟨i',h5,h6⟩:=h3
   have h7:=hx i' h5
   rw [h6] at h7
   have e2:sm (fun j=>(A i j - A i (r + 1) * b * A i0 j) * x j) (r + 1)=sm (fun j=>A i j * x j) (r + 1) - A i (r + 1) * b * sm (fun j=>A i0 j * x j) (r + 1):=by
    rw [← aK,← jc]
    exact ai fun j _=>by grind
   rw [e2] at h7
   rw [hy]; grind
  refine ⟨fun j=>if j=r + 1 then 1 else 0,⟨r + 1,Nat.le_refl _,by show (if r + 1=r + 1 then (1:K) else 0) ≠ 0; rw [if_pos rfl]; exact F.2⟩,fun i hi=>?_⟩
  have h0:A i (r + 1)=0:=Classical.byContradiction fun hc=>h ⟨i,hi,hc⟩
  rw [sm,aS fun j hj=>by show A i j * (if j=r + 1 then 1 else 0)=0; rw [if_neg (by omega)]; grind,h0]
  grind
def im (y:Nat→Nat→K) (q:Nat):Prop:=∀ x:Nat→K,(∀ k,sm (fun j=>x j * y j k) q=0)→∀ j,j < q→x j=0
theorem qx (F:nr K) {y z:Nat→Nat→K} {q r:Nat} (hy:im y q) (h:∀ j,j < q→∃ C:Nat→K,∀ k,y j k=sm (fun i=>C i * z i k) r):q≤r:=by
 refine Nat.le_of_not_lt fun hlt=>?_
 have h' : ∀ j,∃ C:Nat→K,j < q→∀ k,y j k=sm (fun i=>C i * z i k) r:=fun j=>by
  by_cases hj:j < q
  ·obtain ⟨C,hC⟩:=h j hj; exact ⟨C,fun _=>hC⟩
  exact ⟨fun _=>0,fun hj2=>absurd hj2 hj⟩
 obtain ⟨C,hC⟩:=Classical.axiomOfChoice h'
 obtain ⟨x,⟨j0,hj0,hx0⟩,hx⟩:=wa F r fun i j=>C j i
 refine hx0 ?_
 have h2:=hy (fun j=>if j≤r then x j else 0) (fun k=>?_) j0 (by omega)
 ·rwa [if_pos hj0] at h2
 have e0:sm (fun j=>(if j≤r then x j else 0) * y j k) q=sm (fun j=>(if j≤r then x j else 0) * y j k) (r + 1):=by
  obtain ⟨d,rfl⟩:∃ d,q=r + 1 + d:=⟨q - (r + 1),by omega⟩
  clear hy hC hlt h h'
  induction d with
  | zero=>rfl
  | succ d ih =>
   rw [show r + 1 + (d + 1)=(r + 1 + d) + 1 by omega,sm,ih,if_neg (by omega)]; grind
 rw [e0]
 have e1:sm (fun j=>(if j≤r then x j else 0) * y j k) (r + 1)=sm (fun j=>sm (fun i=>C j i * x j * z i k) r) (r + 1):=ai fun j hj=>by
  rw [if_pos (by omega),hC j (by omega) k,← aK]
  exact ai fun i _=>by grind
 rw [e1,aU]
 refine aS fun i hi=>?_
 rw [bI,hx i hi]; grind
end
section
variable {K:Type} [CommRing K]
def sW (l:List Nat):Nat→(List Nat→K)→K
 | 0,h=>h []
 | k + 1,h=>sl l fun x=>sW l k fun w=>h (x :: w)
theorem jh {l:List Nat} {f g:Nat→K} (h:∀ x∈l,f x=g x):sl l f=sl l g:=by
 induction l with
 | nil=>rfl
 | cons x l ih=>rw [cm,cm,h x (by simp),ih fun y hy=>h y (by simp [hy])]
theorem wh {l:List Nat} {f:Nat→K} (h:∀ x∈l,f x=0):sl l f=0:=by
 induction l with
 | nil=>rfl
 | cons x l ih=>rw [cm,h x (by simp),ih fun y hy=>h y (by simp [hy])]; grind
theorem zc (l:List Nat) (f g:Nat→K):sl l (fun x=>f x + g x)=sl l f + sl l g:=by
 induction l with
 | nil=>simp only [sl,List.foldr_nil]; grind
 | cons x l ih=>simp only [cm,ih]; grind
theorem FA (k:K) (l:List Nat) (f:Nat→K):sl l (fun x=>k * f x)=k * sl l f:=by
 induction l with
 | nil=>simp only [sl,List.foldr_nil]; grind
 | cons x l ih=>simp only [cm,ih]; grind
theorem qz (l l' : List Nat) (f:Nat→Nat→K):sl l (fun x=>sl l' fun y=>f x y)=sl l' fun y=>sl l fun x=>f x y:=by
 induction l with
 | nil=>simp only [sl,List.foldr_nil]; exact (wh fun _ _=>rfl).symm
 | cons x l ih=>simp only [cm,ih,zc]
theorem ej {l:List Nat} : ∀ {k:Nat} {f g:List Nat→K},(∀ w,w.length=k→(∀ x∈w,x∈l)→f w=g w)→sW l k f=sW l k g
 | 0,f,g,h=>h [] rfl (by simp)
 | k + 1,f,g,h=>jh fun x hx=>ej fun w hw hl=>h (x :: w) (by simp [hw]) (by simp; exact ⟨hx,hl⟩)
theorem uk {l:List Nat} : ∀ {k:Nat} (f g:List Nat→K),sW l k (fun w=>f w + g w)=sW l k f + sW l k g
 | 0,f,g=>rfl
 | k + 1,f,g=>by
  simp only [sW,uk]
  rw [zc]
theorem oR {l:List Nat} (c:K):∀ {k:Nat} (f:List Nat→K),sW l k (fun w=>c * f w)=c * sW l k f
 | 0,f=>rfl
 | k + 1,f=>by
  simp only [sW,oR]
  rw [FA]
theorem qV {l:List Nat} : ∀ {k:Nat} (h:List Nat→K),sW l (k + 1) h=sl l fun x=>sW l k fun w=>h (w++[x])
 | 0,h=>rfl
 | k + 1,h=>by
  show sl l (fun x=>sW l (k + 1) fun w=>h (x :: w))=_
  have e:∀ x,sW l (k + 1) (fun w=>h (x :: w))=sl l fun y=>sW l k fun w=>h (x :: (w++[y])):=fun x=>qV _
  rw [jh fun x _=>e x,qz]
  rfl
def iU:List Nat→List Nat
 | []=>[]
 | x :: w=>w++[x]
theorem E6 {l:List Nat} {k:Nat} (h:List Nat→K):sW l (k + 1) (fun w=>h (iU w))=sW l (k + 1) h:=by
 rw [qV h]; rfl
def db (x:Nat) (w:List Nat):Nat:=w.countP (· == x)
def ot (x:Nat):List Nat→K
 | []=>0
 | y :: w=>ot x w + (db x w:Nat)
theorem tc (x:Nat) (u v:List Nat):db x (u++v)=db x u + db x v:=by simp [db]
theorem gX (x y:Nat) (w:List Nat):db x (y :: w)=db x w + if y=x then 1 else 0:=by
 simp [db,List.countP_cons]
theorem pN (x y:Nat):∀ w:List Nat,(ot x (w++[y]):K)=ot x w + (w.length:Nat) * (if y=x then 1 else 0:Nat)
 | []=>by
  simp only [List.nil_append,ot,db,List.countP_nil,List.length_nil]; grind
 | z :: w=>by
  have h1:=pN x y w
  simp only [List.cons_append,ot,h1,tc,List.length_cons]
  have h2:db x [y]=if y=x then 1 else 0:=by simp [db,List.countP_cons]
  rw [h2]
  split<;>grind
theorem Ad {p:Nat} (hp:(p:K)=0) {w:List Nat} (hw:w.length=p) (hw0:0 < p) (x:Nat):(ot x (iU w):K)=ot x w - (db x w:Nat):=by
 cases w with
 | nil=>simp at hw; omega
 | cons y w =>
  simp only [iU,pN,ot,gX]
  simp only [List.length_cons] at hw
  have:((w.length:Nat):K) + 1=0:=by rw [← hp,← hw]; grind
  split<;>grind
theorem sA (x:Nat) (w:List Nat):db x (iU w)=db x w:=by
 cases w with
 | nil=>rfl
 | cons y w =>
  simp only [iU,tc,gX]
  simp [db]
end
end Go.Proofs.YtjlmpmidchddjaaDoor
namespace Go.Proofs.YtjlmpmidchddjaaDoor
open Lean.Grind
attribute [local instance] Lean.Grind.Semiring.natCast Lean.Grind.Ring.intCast
section
variable {K:Type} [CommRing K]
theorem q8 (x:Nat) (w:List Nat):db x w≤w.length:=List.countP_le_length
theorem pR {x:Nat} {w:List Nat} (h:db x w=w.length):w=List.replicate w.length x:=by
 refine List.eq_replicate_iff.2 ⟨rfl,fun y hy=>?_⟩
 have:=List.countP_eq_length.1 h y hy
 simpa using this
theorem AT (x k:Nat):db x (List.replicate k x)=k:=by simp [db,List.countP_replicate]
theorem od {x:Nat} {w:List Nat} : 0 < db x w↔x∈w:=by
 unfold db
 rw [List.countP_pos_iff]
 constructor
 ·rintro ⟨a,h1,h2⟩
  have:a=x:=by simpa using h2
  exact this ▸ h1
 intro h; exact ⟨x,h,by simp⟩
def nu (l w:List Nat):Nat:=(l.find? fun x=>decide (0 < db x w)).getD 0
theorem vA (l w:List Nat):nu l (iU w)=nu l w:=by unfold nu; simp only [sA]
theorem wI {l w:List Nat} (h:∃ x∈l,x∈w):nu l w∈w:=by
 unfold nu
 cases hf:l.find? fun x=>decide (0 < db x w) with
 | none =>
  obtain ⟨x,h1,h2⟩:=h
  have:=List.find?_eq_none.1 hf x h1
  simp only [decide_eq_true_eq] at this
  exact absurd (od.2 h2) this
 | some x =>
  have:=List.find?_some hf
  simp only [decide_eq_true_eq] at this
  exact od.1 this
theorem xh {l:List Nat} (hl:l.Nodup) {x:Nat} (hx:x∈l) {f:Nat→K} (h:∀ y∈l,y ≠ x→f y=0):sl l f=f x:=by
 induction l with
 | nil=>simp at hx
 | cons y l ih =>
  obtain ⟨h1,h2⟩:=List.nodup_cons.1 hl
  rw [cm]
  by_cases e:y=x
  ·subst e
   rw [wh fun z hz=>h z (by simp [hz]) (fun e=>h1 (e ▸ hz))]; grind
  rw [ih h2 (by rcases List.mem_cons.1 hx with h | h; exact absurd h.symm e; exact h) fun z hz=>h z (by simp [hz]),h y (by simp) e]; grind
theorem yJ {l:List Nat} (hl:l.Nodup) {x:Nat} (hx:x∈l):∀ (k:Nat) (h:List Nat→K),(sW l k fun w=>if db x w=k then h w else 0)=h (List.replicate k x)
 | 0,h=>by simp [sW,db]
 | k + 1,h=>by
  rw [sW,xh hl hx fun y hy hne=>?_]
  ·have e:∀ w:List Nat,(if db x (x :: w)=k + 1 then h (x :: w) else 0)=if db x w=k then h (x :: w) else 0:=fun w=>by
    rw [gX,if_pos rfl]
    by_cases e:db x w=k
    ·rw [if_pos e,if_pos (by omega)]
    rw [if_neg e,if_neg (by omega)]
   simp only [e]
   rw [yJ hl hx k fun w=>h (x :: w)]
   rfl
  have:=ej (l:=l) (k:=k) (f:=fun w=>if db x (y :: w)=k + 1 then h (y :: w) else 0) (g:=fun _=>(0:K)) fun w hw _=>by
   rw [gX,if_neg hne,if_neg]
   have:=q8 x w
   omega
  rw [this]
  have h0:=oR (l:=l) (0:K) (k:=k) fun _=>(0:K)
  have h1:(fun _:List Nat=>(0:K) * 0)=fun _=>0:=by funext w; grind
  rw [h1] at h0
  rw [h0]; grind
theorem qU (F:nr K) {p:Nat} (hp0:0 < p) (hp:(p:K)=0) (hc:∀ a:Nat,0 < a→a < p→(a:K) ≠ 0) {l:List Nat} (hl:l.Nodup) {f:List Nat→K} (hf:∀ w,f (iU w)=f w) :
  sW l p f=sl l fun x=>f (List.replicate p x):=by
 have hiv:∀ a:Nat,∃ b:K,0 < a→a < p→(a:K) * b=1:=fun a=>by
  by_cases h:0 < a∧a < p
  ·obtain ⟨b,hb⟩:=F.1 _ (hc a h.1 h.2)
   exact ⟨b,fun _ _=>hb⟩
  exact ⟨0,fun h1 h2=>absurd ⟨h1,h2⟩ h⟩
 obtain ⟨iv,hiv⟩:=Classical.axiomOfChoice hiv
 let g:List Nat→K:=fun w=>if db (nu l w) w=p then 0 else iv (db (nu l w) w) * f w
 have hg:∀ w,g (iU w)=g w:=fun w=>by simp only [g,vA,sA,hf]
 let f1:List Nat→K:=fun w=>if db (nu l w) w=p then f w else 0
 have hsplit:∀ w,w.length=p→(∀ x∈w,x∈l)→f w=f1 w + (g w * ot (nu l w) w + (-1) * (g (iU w) * ot (nu l (iU w)) (iU w))):=fun w hw hwl=>by
  rw [hg,vA,Ad hp hw hp0]
  simp only [f1,g]
  have hne:∃ x∈l,x∈w:=by
   cases w with
   | nil=>simp at hw; omega
   | cons y w=>exact ⟨y,hwl y (by simp),by simp⟩
  have h1:=od.2 (wI hne)
  have h2:=q8 (nu l w) w
  by_cases e:db (nu l w) w=p
  ·rw [if_pos e,if_pos e]; grind
  rw [if_neg e,if_neg e]
  have:=hiv (db (nu l w) w) h1 (by omega)
  grind
 obtain ⟨k,rfl⟩:∃ k,p=k + 1:=⟨p - 1,by omega⟩
 rw [ej hsplit,uk,uk,oR]
 have h3:=E6 (l:=l) (k:=k) fun w=>g w * ot (nu l w) w
 rw [h3]
 have h4:sW l (k + 1) f1=sl l fun x=>f (List.replicate (k + 1) x):=by
  rw [sW]
  refine jh fun x hx=>?_
  have e:∀ w:List Nat,w.length=k→(∀ y∈w,y∈l)→f1 (x :: w)=if db x w=k then f (x :: w) else 0:=fun w hw hwl=>by
   simp only [f1]
   have hne:∃ y∈l,y∈x :: w:=⟨x,hx,by simp⟩
   have h1:=wI hne
   have h2:=q8 (nu l (x :: w)) (x :: w)
   by_cases e:db x w=k
   ·have hw2:=pR (e.trans hw.symm)
    have:nu l (x :: w)=x:=by
     rcases List.mem_cons.1 h1 with h | h
     ·exact h
     exact (List.eq_replicate_iff.1 hw2).2 _ h
    rw [if_pos e,this,if_pos (by rw [gX,if_pos rfl,e])]
   rw [if_neg e]
   rw [if_neg fun h=>?_]
   have h5:=pR (x:=nu l (x :: w)) (w:=x :: w) (by rw [h,List.length_cons,hw])
   rw [List.length_cons,List.replicate_succ] at h5
   injection h5 with h6 h7
   rw [← h6] at h7
   rw [h7,AT] at e
   omega
  rw [ej e,yJ hl hx k fun w=>f (x :: w)]
  rfl
 rw [h4]; grind
def xq (A:(Nat→K)→Nat→K):Prop:=(∀ u v,A (fun j=>u j + v j)=fun j=>A u j + A v j)∧∀ k u,A (fun j=>k * u j)=fun j=>k * A u j
def mA (A:(Nat→K)→Nat→K):Nat→(Nat→K)→Nat→K
 | 0,u=>u
 | k + 1,u=>A (mA A k u)
theorem xq.zero {A:(Nat→K)→Nat→K} (h:xq A):A (fun _=>0)=fun _=>0:=by
 have:=h.2 0 fun _=>0
 have e:(fun _:Nat=>(0:K) * 0)=fun _=>0:=by funext j; grind
 rw [e] at this
 rw [this]; funext j; grind
theorem xq.sm {A:(Nat→K)→Nat→K} (h:xq A) (c:Nat→K) (y:Nat→Nat→K):∀ n,A (fun j=>sm (fun i=>c i * y i j) n)=fun j=>Go.Proofs.YtjlmpmidchddjaaDoor.sm (fun i=>c i * A (y i) j) n
 | 0=>h.zero
 | n + 1=>by
  have e:(fun j=>Go.Proofs.YtjlmpmidchddjaaDoor.sm (fun i=>c i * y i j) (n + 1))=fun j=>(fun j=>Go.Proofs.YtjlmpmidchddjaaDoor.sm (fun i=>c i * y i j) n) j + (fun j=>c n * y n j) j:=rfl
  rw [e,h.1,h.2,xq.sm h c y n]
  rfl
def Bj (A:(Nat→K)→Nat→K) (p:Nat) (v:K) (u:Nat→K) (j:Nat):K:=u j - sm (fun k=>v ^ (p - 1 - k) * mA A k u j) p
theorem BT {A:(Nat→K)→Nat→K} (h:xq A) {p:Nat} (hp:0 < p) {v:K} (hv:v ^ p=v) {u:Nat→K} (hu:mA A p u=A u) (j:Nat):A (Bj A p v u) j=v * Bj A p v u j:=by
 have e:Bj A p v u=fun j=>u j + (-1) * (fun j=>sm (fun k=>v ^ (p - 1 - k) * mA A k u j) p) j:=by funext j; unfold Bj; grind
 rw [e,h.1,h.2,h.sm]
 show A u j + -1 * sm (fun k=>v ^ (p - 1 - k) * A (mA A k u) j) p=v * (u j + -1 * sm (fun k=>v ^ (p - 1 - k) * mA A k u j) p)
 have tel:∀ q,q≤p→sm (fun k=>v ^ (p - 1 - k) * A (mA A k u) j) q - v * sm (fun k=>v ^ (p - 1 - k) * mA A k u j) q=v ^ (p - q) * mA A q u j - v ^ p * u j:=by
  intro q
  induction q with
  | zero=>intro _; simp only [sm,mA,Nat.sub_zero]; grind
  | succ q ih =>
   intro hq
   have h1:=ih (by omega)
   simp only [sm]
   have h2:v ^ (p - q)=v ^ (p - 1 - q) * v:=by rw [show p - q=(p - 1 - q) + 1 by omega,Semiring.pow_succ]
   have h3:p - (q + 1)=p - 1 - q:=by omega
   rw [h3]
   show _=v ^ (p - 1 - q) * A (mA A q u) j - _
   rw [h2] at h1
   grind
 have h1:=tel p (Nat.le_refl _)
 rw [Nat.sub_self,Semiring.pow_zero,hu,hv] at h1
 grind
def Ia (K:Type) [CommRing K] (p:Nat):Prop:=∀ j,j≤p - 1→sm (fun v=>((v:Nat):K) ^ j) p=if j=p - 1 then -1 else 0
theorem B1 {A:(Nat→K)→Nat→K} {p:Nat} (hp:2≤p) (hp0:(p:K)=0) (hs:Ia K p) (u:Nat→K) (j:Nat):sm (fun v=>Bj A p ((v:Nat):K) u j) p=u j:=by
 unfold Bj
 rw [jc,bQ,hp0,aU]
 have e:∀ k,k < p→sm (fun v=>((v:Nat):K) ^ (p - 1 - k) * mA A k u j) p=(if k=0 then -1 else 0) * mA A k u j:=fun k hk=>by
  rw [bI,hs _ (by omega)]
  by_cases h:k=0
  ·rw [if_pos h,if_pos (by omega)]
  rw [if_neg h,if_neg (by omega)]
 rw [ai e,ba (i:=0) (by omega) fun k hk hne=>by show (if k=0 then (-1:K) else 0) * mA A k u j=0; rw [if_neg hne]; grind]
 show 0 * u j - (if 0=0 then (-1:K) else 0) * u j=u j
 rw [if_pos rfl]; grind
end
end Go.Proofs.YtjlmpmidchddjaaDoor
