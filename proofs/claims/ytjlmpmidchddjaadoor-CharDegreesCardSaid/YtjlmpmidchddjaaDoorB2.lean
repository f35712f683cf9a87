/-
  Texts of this proof, one behind the other: what each says stands at its head. Conditions: none.
-/
import Derived.Test.YtjlmpmidchddjaaDoorB1
import Derived.ProofKit
import Derived.OpenShut
import Derived.ChangeCalls
import Derived.SizedLaws
set_option linter.all false
namespace Go.Pv
open Go.RowKit
theorem Rel.congr {C:Ctx} {m:Map} {s s2:St} {tmps:Array Value} {w:World} (h:Rel C m s tmps w) (h1:∀ t,s2.get t=s.get t) (h2:s2.H=s.H) (h3:s2.n=s.n):Rel C m s2 tmps w:=by
 refine ⟨by rw [h2]; exact h.laid,h.below,h.base,by rw [h3]; exact h.size,?_,?_,?_,fun t=>?_,by rw [h2]; exact h.mp⟩
 ·rw [h2]; exact h.inj
 ·rw [h2]; exact h.blk
 ·rw [h2]; exact h.fro
 rw [h1,h2]; exact h.slot t
section
variable {P:Program} {ops:Array Oper}
structure Out where
 av:AV
 H:ay
def sD (ops:Array Oper) (out:Nat→Out) (s:St) (D:Nat→Bool):Nat→St
 | 0=>s
 | k + 1=>if D k then ({ sD ops out s D k with H:=if k8 (bS ops k).op then (out k).H else (sD ops out s D k).H } : St).put (bS ops k).dst (out k).av else sD ops out s D k
theorem eX (s:St) (d:Option Nat) (x:AV) (t:Nat):(s.put d x).get t=if d=some t then x else s.get t:=by
 cases d with
 | none=>simp [St.put]
 | some d =>
  by_cases h:d=t
  ·subst h; simp [St.put,St.get,lk]
  simp [St.put,St.get,lk,h,show (d == t)=false by simpa using h]
theorem rH (out:Nat→Out) (s:St) (D:Nat→Bool):∀ k,(sD ops out s D k).n=s.n
 | 0=>rfl
 | k + 1=>by
  simp only [sD]
  split
  ·rw [St.kv]; exact rH out s D k
  exact rH out s D k
theorem jr (out:Nat→Out) (s:St) (D:Nat→Bool) (k t:Nat):(sD ops out s D (k + 1)).get t=if D k=true∧(bS ops k).dst=some t then (out k).av else (sD ops out s D k).get t:=by
 simp only [sD]
 by_cases h:D k=true
 ·rw [if_pos h,eX]
  by_cases hd:(bS ops k).dst=some t
  ·have hr:D k=true∧(bS ops k).dst=some t:=⟨h,hd⟩
   rw [if_pos hd,if_pos hr]
  have hr:¬ (D k=true∧(bS ops k).dst=some t):=fun hh=>hd hh.2
  rw [if_neg hd,if_neg hr]; rfl
 have hr:¬ (D k=true∧(bS ops k).dst=some t):=fun hh=>h hh.1
 rw [if_neg h,if_neg hr]
theorem tx (out:Nat→Out) (s:St) (D:Nat→Bool) (k:Nat):(sD ops out s D (k + 1)).H=if D k=true∧k8 (bS ops k).op=true then (out k).H else (sD ops out s D k).H:=by
 simp only [sD]
 by_cases h:D k=true
 ·rw [if_pos h,St.fX]
  by_cases hd:k8 (bS ops k).op=true
  ·have hr:D k=true∧k8 (bS ops k).op=true:=⟨h,hd⟩
   rw [if_pos hr]; simp only [hd,if_true]
  have hr:¬ (D k=true∧k8 (bS ops k).op=true):=fun hh=>hd hh.2
  rw [if_neg hr]; simp only [hd,Bool.false_eq_true,if_false]
 have hr:¬ (D k=true∧k8 (bS ops k).op=true):=fun hh=>h hh.1
 rw [if_neg h,if_neg hr]
theorem nN (out : Nat → Out) (s : St) (D : Nat → Bool) (t : Nat) : ∀ k n, k ≤ n → (∀ i, k ≤ i → i < n → D i = true → (bS ops i).dst ≠ some t) → (sD ops out s D n).get t = (sD ops out s D k).get t := by
  intro k n hkn h
  induction n with
  | zero => obtain rfl : k = 0 := by omega
            rfl
  | succ n ih =>
    by_cases hk : k = n + 1
    · rw [hk]
    · rw [jr, if_neg (fun hh => h n (by omega) (by omega) hh.1 hh.2)]
      exact ih (by omega) fun i h1 h2 => h i h1 (by omega)
theorem qO (out : Nat → Out) (s : St) (D : Nat → Bool) : ∀ k n, k ≤ n → (∀ i, k ≤ i → i < n → D i = true → k8 (bS ops i).op = false) → (sD ops out s D n).H = (sD ops out s D k).H := by
  intro k n hkn h
  induction n with
  | zero => obtain rfl : k = 0 := by omega
            rfl
  | succ n ih =>
    by_cases hk : k = n + 1
    · rw [hk]
    · rw [tx, if_neg (fun hh => by have := h n (by omega) (by omega) hh.1; rw [this] at hh; simp at hh)]
      exact ih (by omega) fun i h1 h2 => h i h1 (by omega)
theorem jn (out:Nat→Out) (s:St) (D D' : Nat→Bool) (t:Nat):∀ k,(∀ i,i < k→(bS ops i).dst=some t→D i=D' i)→(sD ops out s D k).get t=(sD ops out s D' k).get t:=by
 intro k h
 induction k with
 | zero=>rfl
 | succ k ih =>
  rw [jr,jr,ih fun i hi=>h i (by omega)]
  by_cases hd:(bS ops k).dst=some t
  ·rw [h k (by omega) hd]
  rw [if_neg (fun hh=>hd hh.2),if_neg (fun hh=>hd hh.2)]
theorem mi (out:Nat→Out) (s:St) (D D' : Nat→Bool):∀ k,(∀ i,i < k→k8 (bS ops i).op=true→D i=D' i)→(sD ops out s D k).H=(sD ops out s D' k).H:=by
 intro k h
 induction k with
 | zero=>rfl
 | succ k ih =>
  rw [tx,tx,ih fun i hi=>h i (by omega)]
  by_cases hd:k8 (bS ops k).op=true
  ·rw [h k (by omega) hd]
  rw [if_neg (fun hh=>hd hh.2),if_neg (fun hh=>hd hh.2)]
structure Fact (P:Program) (ops:Array Oper) (out:Nat→Out) (s:St) (j:Nat) (o:Oper):Prop where
 dst:∀ t,o.dst=some t→t < s.n
 how:(bz ops (sD ops out s (fun _=>true) j) o=some false∧(out j).av = .p (.tup [])∧k8 o.op=false) ∨
  (bz ops (sD ops out s (fun _=>true) j) o=some true∧Dc P o (sD ops out s (fun _=>true) j) (out j).av (out j).H)
theorem n4.facts:∀ (l:List Oper) (k:Nat) (pre:Nat→Out) (s s1 s' : St),(∀ i,l[i]? = ops[k + i]?)→k + l.length=ops.size→(∀ t,s1.get t=(sD ops pre s (fun _=>true) k).get t)→s1.H=(sD ops pre s (fun _=>true) k).H→s1.n=s.n →
  (∀ o∈l,o.guard ≠ none→k8 o.op=false) →
  n4 P true ops l s1 s'→∃ out:Nat→Out,(∀ i,i < k→out i=pre i)∧(∀ i o,k≤i→ops[i]? = some o→Fact P ops out s i o)∧(∀ t,s'.get t=(sD ops out s (fun _=>true) ops.size).get t)∧s'.H=(sD ops out s (fun _=>true) ops.size).H∧s'.n=s.n
 | [],k,pre,s,s1,s',hl,hk,hg,hH,hn,_,hr=>by
  cases hr
  simp at hk
  subst hk
  refine ⟨pre,fun _ _=>rfl,fun i o hi ho=>?_,hg,hH,hn⟩
  have:=(Array.getElem?_eq_some_iff.1 ho).1
  omega
 | o :: r,k,pre,s,s1,s',hl,hk,hg,hH,hn,hgw,hr=>by
  have ho:ops[k]? = some o:=by have:=hl 0; simpa using this.symm
  have hod:bS ops k=o:=eS ho
  have sDpre:∀ (x:Out) (j:Nat),j≤k→sD ops (fun i=>if i=k then x else pre i) s (fun _=>true) j=sD ops pre s (fun _=>true) j:=by
   intro x j hj
   induction j with
   | zero=>rfl
   | succ j ih =>
    simp only [sD]
    rw [ih (by omega),if_neg (by omega:¬ j=k)]
  have hgs:∀ b,bz ops s1 o=some b→bz ops (sD ops pre s (fun _=>true) k) o=some b:=by
   intro b h
   unfold bz at h ⊢
   simp only [hg] at h
   exact h
  cases hr with
  | cons h hr =>
   have next:∀ (x:Out) (sn:St),(∀ t,sn.get t=if o.dst=some t then x.av else s1.get t)→(sn.H=if k8 o.op=true then x.H else s1.H)→sn.n=s1.n→n4 P true ops r sn s' →
     Fact P ops (fun i=>if i=k then x else pre i) s k o →
     ∃ out:Nat→Out,(∀ i,i < k→out i=pre i)∧(∀ i o,k≤i→ops[i]? = some o→Fact P ops out s i o)∧(∀ t,s'.get t=(sD ops out s (fun _=>true) ops.size).get t)∧s'.H=(sD ops out s (fun _=>true) ops.size).H∧s'.n=s.n:=by
    intro x sn h1 h2 h3 hrn hf
    obtain ⟨out,g1,g2,g3⟩:=n4.facts r (k + 1) (fun i=>if i=k then x else pre i) s sn s' (fun i=>by have:=hl (i + 1); simp only [List.getElem?_cons_succ] at this; rw [this]; congr 1; omega) (by simp at hk; omega)
     (fun t=>by rw [h1,jr,hod,sDpre x k (Nat.le_refl _),hg]; simp) (by rw [h2,tx,hod,sDpre x k (Nat.le_refl _),hH]; simp) (by rw [h3,hn]) (fun o ho=>hgw o (by simp [ho])) hrn
    refine ⟨out,fun i hi=>?_,fun i o' hi ho'=>?_,g3⟩
    ·rw [g1 i (by omega),if_neg (by omega)]
    by_cases hik:i=k
    ·subst hik
     rw [ho] at ho'; cases ho'
     have e1:∀ j,j≤i→sD ops out s (fun _=>true) j=sD ops (fun i'=>if i' = i then x else pre i') s (fun _=>true) j:=by
      intro j hj
      induction j with
      | zero=>rfl
      | succ j ih=>simp only [sD]; rw [ih (by omega),g1 j (by omega)]
     have e2:out i=(fun i'=>if i' = i then x else pre i') i:=g1 i (by omega)
     refine ⟨hf.dst,?_⟩
     have:=hf.how
     rw [e1 i (Nat.le_refl _),e2]
     exact this
    exact g2 i o' (by omega) ho'
   cases h with
   | skip hgd hd =>
    have hgn:o.guard ≠ none:=by
     intro e
     unfold bz at hgd
     rw [e] at hgd
     simp at hgd
    have hw:=hgw o (by simp) hgn
    refine next ⟨.p (.tup []),s1.H⟩ _ (fun t=>eX _ _ _ _) (by rw [St.fX]; simp) (St.kv _ _ _) hr ⟨fun t ht=>by rw [← hn]; exact hd t ht,.inl ⟨?_,by simp,hw⟩⟩
    rw [sDpre _ k (Nat.le_refl _)]
    exact hgs false hgd
   | op av H' hgd hd hdo hloc =>
    have hloc:=hloc rfl
    have hag:∀ (s2:St),(∀ t,s2.get t=(sD ops pre s (fun _=>true) k).get t)→∀ x,s2.ev x=s1.ev x:=by
     intro s2 h2 x
     cases x<;>simp only [St.ev]
     rw [h2,hg]
    refine next ⟨av,H'⟩ (({ s1 with H:=H' } : St).put o.dst av) (fun t=>by rw [eX]; rfl) (by
      rw [St.fX]
      by_cases hw:k8 o.op=true
      ·rw [if_pos hw]
      rw [if_neg hw]; exact hloc.calm (by simpa using hw)) (St.kv _ _ _) hr ⟨fun t ht=>by rw [← hn]; exact hd t ht,.inr ⟨?_,?_⟩⟩
    ·rw [sDpre _ k (Nat.le_refl _)]; exact hgs true hgd
    rw [sDpre _ k (Nat.le_refl _)]
    simp only [if_true]
    have hev:∀ x,(sD ops pre s (fun _=>true) k).ev x=s1.ev x:=hag _ fun _=>rfl
    have hnn:(sD ops pre s (fun _=>true) k).n=s1.n:=by rw [rH,hn]
    refine ⟨fun s2 h1 h2 h3=>hloc.here s2 (h1.trans hnn) (fun x hx=>(h2 x hx).trans (hev x)) (h3.trans hH.symm),fun hf=>?_,fun hw=>by rw [← hH]; exact hloc.calm hw⟩
    obtain ⟨e1,e2⟩:=hloc.free hf
    exact ⟨by rw [← hH]; exact e1,fun s2 h1 h2=>e2 s2 (h1.trans hnn) (fun x hx=>(h2 x hx).trans (hev x))⟩
theorem wY {o:Op} (h:k8 o=true):jM o=true:=by
 unfold k8 at h
 split at h<;>first|rfl|cases h
theorem th (h:rX ops=true):(∀ j o,ops[j]? = some o→∀ e∈o.after.toList,Region.binds .any e=true→e.on < j) ∧
  ∀ i j oi oj,i < j→ops[i]? = some oi→ops[j]? = some oj→gw ops oi oj=false→((dA ops).getD j 0).testBit i=true:=by
 unfold rX at h
 rw [List.all_eq_true] at h
 constructor
 ·intro j o ho e he hb
  have hj:=(Array.getElem?_eq_some_iff.1 ho).1
  have:=h j (by simpa using hj)
  rw [Bool.and_eq_true] at this
  have h1:=(List.all_eq_true.1 this.1) e (by rw [eS ho]; exact he)
  rw [hb] at h1
  simpa using h1
 intro i j oi oj hij hi hj ha
 have hj':=(Array.getElem?_eq_some_iff.1 hj).1
 have:=h j (by simpa using hj')
 rw [Bool.and_eq_true] at this
 have h1:=(List.all_eq_true.1 this.2) i (by simpa using hij)
 rw [eS hi,eS hj,ha,Bool.false_or] at h1
 exact h1
theorem vB {Q:Exit→Act→World→Prop} {C:Ctx} {ds:List Deferred} {s s' : St} (hok:rX ops=true) (hgw:∀ o∈ops.toList,o.guard ≠ none→k8 o.op=false) (hrun:n4 P true ops ops.toList s s') {m:Map} {a:Act} {w:World} (R:Rel C m s a.tmps w) (hd:a.defers=ds)
  (hQ:∀ m' (a' : Act) w',Rel C m' s' a'.tmps w'→a'.defers=ds→Q .normal a' w'):nZ P .any ops Q ops.size (Array.replicate ops.size false) a w:=by
 obtain ⟨hedge,hconf⟩:=th hok
 obtain ⟨out,_,hfact,hget',hH',hn'⟩:=n4.facts (ops:=ops) ops.toList 0 (fun _=>⟨.dead,[]⟩) s s s' (fun i=>by simp) (by simp) (fun _=>rfl) rfl rfl hgw hrun
 have hfact:∀ i o,ops[i]? = some o→Fact P ops out s i o:=fun i o=>hfact i o (Nat.zero_le _)
 have key:∀ (fuel:Nat) (listed:Array Bool) (m:Map) (a:Act) (w:World),listed.size=ops.size→(List.range ops.size).countP (fun i=>!listed.getD i true)=fuel →
   (∀ j o,listed.getD j false=true→ops[j]? = some o→∀ e∈o.after.toList,Region.binds .any e=true→listed.getD e.on false=true) →
   Rel C m (sD ops out s (fun i=>listed.getD i false) ops.size) a.tmps w→a.defers=ds→nZ P .any ops Q fuel listed a w:=by
  intro fuel
  induction fuel with
  | zero =>
   intro listed m a w hsz hcnt hcl R hd
   have hall:∀ i,i < ops.size→listed.getD i true=true:=by
    intro i hi
    have:=List.countP_eq_zero.1 hcnt i (by simpa using hi)
    simpa using this
   refine ⟨?_,hQ m a w (R.congr (fun t=>?_) ?_ ?_) hd⟩
   ·unfold Region.ready
    rw [List.filter_eq_nil_iff]
    intro i hi
    have:=hall i (by simpa using hi)
    simp [this]
   ·rw [hget']
    refine (jn out s _ _ t _ fun i hi _=>?_).symm
    have:=hall i hi
    simp [Array.getD_eq_getD_getElem?,Array.getElem?_eq_getElem (show i < listed.size by omega)] at this ⊢
    exact this
   ·rw [hH']
    refine (mi out s _ _ _ fun i hi _=>?_).symm
    have:=hall i hi
    simp [Array.getD_eq_getD_getElem?,Array.getElem?_eq_getElem (show i < listed.size by omega)] at this ⊢
    exact this
   rw [rH,hn']
  | succ fuel ih =>
   intro listed m a w hsz hcnt hcl R hd
   refine ⟨fun hnil=>?_,fun j hj=>?_⟩
   ·
    exfalso
    have hex:∃ i,i < ops.size∧listed.getD i true=false:=by
     have:0 < (List.range ops.size).countP (fun i=>!listed.getD i true):=by omega
     obtain ⟨i,hi,h⟩:=List.countP_pos_iff.1 this
     exact ⟨i,by simpa using hi,by simpa using h⟩
    have hmin:∃ i,i < ops.size∧listed.getD i true=false∧∀ k,k < i→listed.getD k true=true:=by
     obtain ⟨i,hi,h⟩:=hex
     induction i using Nat.strongRecOn with
     | _ i ihh =>
      by_cases hall:∀ k,k < i→listed.getD k true=true
      ·exact ⟨i,hi,h,hall⟩
      simp only [Classical.not_forall] at hall
      obtain ⟨k,hk,hkn⟩:=hall
      exact ihh k hk (by omega) (by simpa using hkn)
    obtain ⟨i,hi,hli,hbelow⟩:=hmin
    have hmem:i∈Region.ready .any ops listed:=by
     unfold Region.ready
     rw [List.mem_filter]
     refine ⟨by simpa using hi,?_⟩
     rw [hli,Array.getElem?_eq_getElem hi]
     simp only [Bool.not_false,Bool.true_and,Option.map_some,Option.getD_some]
     rw [Array.all_eq_true_iff_forall_mem]
     intro e he
     by_cases hb:Region.binds .any e=true
     ·have hlt:=hedge i ops[i] (Array.getElem?_eq_getElem hi) e (by simpa using he) hb
      have:=hbelow e.on hlt
      have hlt' : e.on < listed.size:=by omega
      simp [Array.getD_eq_getD_getElem?,Array.getElem?_eq_getElem hlt'] at this ⊢
      simp [this]
     simp [hb]
    rw [hnil] at hmem
    simp at hmem
   unfold Region.ready at hj
   rw [List.mem_filter] at hj
   obtain ⟨hjlt,hj⟩:=hj
   have hjlt:j < ops.size:=by simpa using hjlt
   have hoj:ops[j]? = some ops[j]:=Array.getElem?_eq_getElem hjlt
   generalize ops[j]=o at hoj
   rw [hoj] at hj
   simp only [Option.map_some,Option.getD_some,Bool.and_eq_true,Bool.not_eq_eq_eq_not,Bool.not_true] at hj
   obtain ⟨hnl,hal⟩:=hj
   have hjls:j < listed.size:=by omega
   have hnl' : listed.getD j false=false:=by
    simp [Array.getD_eq_getD_getElem?,Array.getElem?_eq_getElem hjls] at hnl ⊢
    exact hnl
   have hpre:∀ e∈o.after.toList,Region.binds .any e=true→listed.getD e.on false=true:=by
    intro e he hb
    have:=(Array.all_eq_true_iff_forall_mem.1 hal) e (by simpa using he)
    rw [hb] at this
    simpa using this
   have hanc:∀ i,((dA ops).getD j 0).testBit i=true→listed.getD i false=true:=
    sP (D:=fun i=>listed.getD i false=true) hcl j j o (Nat.le_refl _) hoj hpre
   have hanc' : ∀ i,listed.getD i false=true→∀ oi,ops[i]? = some oi→∀ k,((dA ops).getD i 0).testBit k=true→listed.getD k false=true:=
    fun i hi oi hoi=>sP (D:=fun i=>listed.getD i false=true) hcl i i oi (Nat.le_refl _) hoi (hcl i oi hi hoi)
   have hod:bS ops j=o:=eS hoj
   have low:∀ i,i < j→gw ops (bS ops i) o=false→listed.getD i false=true:=by
    intro i hi ha
    have hoi:ops[i]? = some ops[i]:=Array.getElem?_eq_getElem (by omega)
    refine hanc i (hconf i j ops[i] o hi hoi hoj ?_)
    rwa [eS hoi] at ha
   have high:∀ i,j < i→i < ops.size→listed.getD i false=true→gw ops o (bS ops i)=true:=by
    intro i hi hlt hli
    have hoi:ops[i]? = some ops[i]:=Array.getElem?_eq_getElem hlt
    have e:bS ops i=ops[i]:=eS hoi
    rw [e]
    by_cases ha:gw ops o ops[i]=true
    ·exact ha
    have:=hanc' i hli ops[i] hoi j (hconf j i o ops[i] hi hoj hoi (by simpa using ha))
    rw [this] at hnl'; cases hnl'
   have agree:∀ t,t∈o.looksAt ops→(sD ops out s (fun i=>listed.getD i false) ops.size).get t=(sD ops out s (fun _=>true) j).get t:=by
    intro t ht
    rw [nN out s _ t j ops.size (by omega) (fun i h1 h2 h3 h4=>?_)]
    ·refine jn out s _ _ t j fun i hi hdi=>?_
     rw [low i hi ?_]
     rw [Bool.eq_false_iff]
     intro hap
     unfold gw at hap
     rw [Bool.and_eq_true,Bool.and_eq_true] at hap
     exact (Oper.apart_spec hap.1.1).1 t hdi ht
    by_cases hij:i=j
    ·subst hij; rw [hnl'] at h3; cases h3
    have hap:=high i (by omega) h2 h3
    unfold gw at hap
    rw [Bool.and_eq_true,Bool.and_eq_true] at hap
    exact (Oper.apart_spec hap.1.1).2.2 t h4 ht
   have agreeH:jM o.op=true→(sD ops out s (fun i=>listed.getD i false) ops.size).H=(sD ops out s (fun _=>true) j).H:=by
    intro hT
    rw [qO out s _ j ops.size (by omega) (fun i h1 h2 h3=>?_)]
    ·refine mi out s _ _ j fun i hi hwi=>?_
     rw [low i hi ?_]
     rw [Bool.eq_false_iff]
     intro hap
     unfold gw at hap
     simp [hwi,hT] at hap
    by_cases hij:i=j
    ·subst hij; rw [hnl'] at h3; cases h3
    have hap:=high i (by omega) h2 h3
    unfold gw at hap
    simp only [hT,Bool.true_and,Bool.and_eq_true,Bool.not_eq_eq_eq_not,Bool.not_true] at hap
    exact hap.2
   have hlist:∀ i,(listed.setIfInBounds j true).getD i false=if i=j then true else listed.getD i false:=by
    intro i
    simp only [Array.getD_eq_getD_getElem?]
    by_cases hij:i=j
    ·subst hij; rw [Array.getElem?_setIfInBounds_self_of_lt hjls,if_pos rfl]; rfl
    rw [Array.getElem?_setIfInBounds_ne (Ne.symm hij),if_neg hij]
   have insertGet:∀ t,(sD ops out s (fun i=>(listed.setIfInBounds j true).getD i false) ops.size).get t=if o.dst=some t then (out j).av else (sD ops out s (fun i=>listed.getD i false) ops.size).get t:=by
    intro t
    have base:∀ k,k≤j→(sD ops out s (fun i=>(listed.setIfInBounds j true).getD i false) k).get t=(sD ops out s (fun i=>listed.getD i false) k).get t:=fun k hk =>
     jn out s _ _ t k fun i hi _=>by rw [hlist,if_neg (by omega)]
    have step:∀ n,j + 1≤n→n≤ops.size→(sD ops out s (fun i=>(listed.setIfInBounds j true).getD i false) n).get t=if o.dst=some t then (out j).av else (sD ops out s (fun i=>listed.getD i false) n).get t:=by
     intro n hn hns
     induction n with
     | zero=>omega
     | succ n ihn =>
      by_cases hnj:n=j
      ·subst hnj
       rw [jr,jr,hod,base n (Nat.le_refl _),hlist,if_pos rfl,hnl']
       by_cases hdt:o.dst=some t
       ·simp [hdt]
       simp [hdt]
      rw [jr,jr,ihn (by omega) (by omega),hlist,if_neg hnj]
      by_cases hln:listed.getD n false=true∧(bS ops n).dst=some t
      ·rw [if_pos hln,if_pos hln]
       have hap:=high n (by omega) (by omega) hln.1
       unfold gw at hap
       rw [Bool.and_eq_true,Bool.and_eq_true] at hap
       by_cases hdt:o.dst=some t
       ·exact absurd hln.2 ((Oper.apart_spec hap.1.1).2.1 t hdt)
       rw [if_neg hdt]
      rw [if_neg hln,if_neg hln]
    exact step ops.size (by omega) (Nat.le_refl _)
   have insertH:(sD ops out s (fun i=>(listed.setIfInBounds j true).getD i false) ops.size).H=if k8 o.op=true then (out j).H else (sD ops out s (fun i=>listed.getD i false) ops.size).H:=by
    have base:∀ k,k≤j→(sD ops out s (fun i=>(listed.setIfInBounds j true).getD i false) k).H=(sD ops out s (fun i=>listed.getD i false) k).H:=fun k hk =>
     mi out s _ _ k fun i hi _=>by rw [hlist,if_neg (by omega)]
    have step:∀ n,j + 1≤n→n≤ops.size→(sD ops out s (fun i=>(listed.setIfInBounds j true).getD i false) n).H=if k8 o.op=true then (out j).H else (sD ops out s (fun i=>listed.getD i false) n).H:=by
     intro n hn hns
     induction n with
     | zero=>omega
     | succ n ihn =>
      by_cases hnj:n=j
      ·subst hnj
       rw [tx,tx,hod,base n (Nat.le_refl _),hlist,if_pos rfl,hnl']
       by_cases hdt:k8 o.op=true
       ·simp [hdt]
       simp [hdt]
      rw [tx,tx,ihn (by omega) (by omega),hlist,if_neg hnj]
      by_cases hln:listed.getD n false=true∧k8 (bS ops n).op=true
      ·rw [if_pos hln,if_pos hln]
       have hap:=high n (by omega) (by omega) hln.1
       unfold gw at hap
       by_cases hdt:k8 o.op=true
       ·simp [hdt,wY hln.2] at hap
       rw [if_neg hdt]
      rw [if_neg hln,if_neg hln]
    exact step ops.size (by omega) (Nat.le_refl _)
   have hcnt' : (List.range ops.size).countP (fun i=>!(listed.setIfInBounds j true).getD i true)=fuel:=by
    have hsplit:∀ (l:List Nat),l.Nodup→j∈l→l.countP (fun i=>!listed.getD i true)=l.countP (fun i=>!(listed.setIfInBounds j true).getD i true) + 1:=by
     intro l
     induction l with
     | nil=>intro _ h; simp at h
     | cons x r ihl =>
      intro hnd hmem
      have hx:∀ i,i ≠ j→(listed.setIfInBounds j true).getD i true=listed.getD i true:=by
       intro i hi
       simp only [Array.getD_eq_getD_getElem?]
       rw [Array.getElem?_setIfInBounds_ne (Ne.symm hi)]
      rw [List.nodup_cons] at hnd
      by_cases hxj:x=j
      ·subst hxj
       have e1:(listed.setIfInBounds x true).getD x true=true:=by
        simp only [Array.getD_eq_getD_getElem?]
        rw [Array.getElem?_setIfInBounds_self_of_lt hjls]; rfl
       rw [List.countP_cons,List.countP_cons,hnl,e1]
       have:r.countP (fun i=>!listed.getD i true)=r.countP (fun i=>!(listed.setIfInBounds x true).getD i true):=by
        apply List.countP_congr
        intro i hi
        rw [hx i (fun e=>hnd.1 (e ▸ hi))]
       simp only [this,Bool.not_false,Bool.not_true,if_true,Bool.false_eq_true,if_false,Nat.add_zero]
      rw [List.countP_cons,List.countP_cons,hx x hxj,ihl hnd.2 (by rcases List.mem_cons.1 hmem with h | h; exact absurd h.symm hxj; exact h)]
      omega
    have:=hsplit (List.range ops.size) List.nodup_range (by simpa using hjlt)
    omega
   have hcl' : ∀ i oi,(listed.setIfInBounds j true).getD i false=true→ops[i]? = some oi→∀ e∈oi.after.toList,Region.binds .any e=true→(listed.setIfInBounds j true).getD e.on false=true:=by
    intro i oi hi hoi e he hb
    rw [hlist] at hi ⊢
    by_cases hij:i=j
    ·subst hij
     rw [hoj] at hoi; cases hoi
     rw [hpre e he hb]; simp
    rw [if_neg hij] at hi
    rw [hcl i oi hi hoi e he hb]; simp
   have next:∀ (m' : Map) (a' : Act) (w' : World),(∃ s2:St,Rel C m' s2 a'.tmps w'∧(∀ t,s2.get t=if o.dst=some t then (out j).av else (sD ops out s (fun i=>listed.getD i false) ops.size).get t) ∧
      (s2.H=if k8 o.op=true then (out j).H else (sD ops out s (fun i=>listed.getD i false) ops.size).H)∧s2.n=s.n)→a'.defers=ds→nZ P .any ops Q fuel (listed.setIfInBounds j true) a' w':=by
    rintro m' a' w' ⟨s2,R2,e1,e2,e3⟩ hd'
    refine ih _ m' a' w' (by simpa using hsz) hcnt' hcl' (R2.congr (fun t=>?_) ?_ ?_) hd'
    ·rw [insertGet,e1]
    ·rw [insertH,e2]
    rw [rH,e3]
   have hgd:∀ b,bz ops (sD ops out s (fun _=>true) j) o=some b→bz ops (sD ops out s (fun i=>listed.getD i false) ops.size) o=some b:=by
    intro b h
    unfold bz at h ⊢
    split at h
    ·exact h
    rename_i g want e
    split at h
    ·rename_i d hdd
     have:(sD ops out s (fun i=>listed.getD i false) ops.size).get d=(sD ops out s (fun _=>true) j).get d:=agree d (by
      unfold Oper.looksAt
      rw [e]
      simp [hdd])
     rw [this]
     exact h
    cases h
   have hsn:(sD ops out s (fun i=>listed.getD i false) ops.size).n=s.n:=rH _ _ _ _
   obtain ⟨fd,fh⟩:=hfact j o hoj
   unfold Je
   rw [hoj]
   simp only
   rcases fh with ⟨hg,hdead,hw⟩ | ⟨hg,hloc⟩
   ·rw [c8 (P:=P) R (hgd _ hg)]
    simp only [Bool.false_eq_true,if_false]
    refine next m _ w ⟨_,R.put (fun t ht=>by rw [hsn]; exact fd t ht) (.p _ _ pf),fun t=>?_,?_,?_⟩ (by rw [put_defers]; exact hd)
    ·rw [eX,hdead]
    ·rw [St.fX,hw]; simp
    rw [St.kv,hsn]
   rw [c8 (P:=P) R (hgd _ hg)]
   simp only [if_true]
   left
   have hag:fB o (sD ops out s (fun _=>true) j) (sD ops out s (fun i=>listed.getD i false) ops.size):=by
    intro x hx
    cases x with
    | tmp t =>
     simp only [St.ev]
     refine agree t ?_
     unfold Oper.looksAt
     rw [List.mem_append]
     left
     rw [List.mem_filterMap]
     exact ⟨.tmp t,by simpa using hx,rfl⟩
    | _=>rfl
   have hn2:(sD ops out s (fun i=>listed.getD i false) ops.size).n=(sD ops out s (fun _=>true) j).n:=by rw [rH,rH]
   by_cases hT:jM o.op=true
   ·refine hloc.here _ hn2 hag (agreeH hT) C m a w _ Q R fun v m' w' R' hv=>?_
    refine next m' _ w' ⟨_,R'.put (fun t ht=>by simp only; rw [hsn]; exact fd t ht) hv,fun t=>?_,?_,?_⟩ (by rw [put_defers]; exact hd)
    ·rw [eX]; rfl
    ·rw [St.fX]
     by_cases hw:k8 o.op=true
     ·rw [if_pos hw]
     rw [if_neg hw,agreeH hT]; exact hloc.calm (by simpa using hw)
    rw [St.kv]; exact hsn
   obtain ⟨e1,e2⟩:=hloc.free (by simpa using hT)
   refine e2 _ hn2 hag C m a w _ Q R fun v m' w' R' hv=>?_
   have hw:k8 o.op=false:=by
    rw [Bool.eq_false_iff]
    exact fun hw=>hT (wY hw)
   refine next m' _ w' ⟨_,R'.put (fun t ht=>by simp only; rw [hsn]; exact fd t ht) hv,fun t=>?_,?_,?_⟩ (by rw [put_defers]; exact hd)
   ·rw [eX]
   ·rw [St.fX,hw]; simp
   rw [St.kv]; exact hsn
 refine key ops.size (Array.replicate ops.size false) m a w (by simp) ?_ ?_ ?_ hd
 ·have:∀ i∈List.range ops.size,(!(Array.replicate ops.size false).getD i true)=true:=by
   intro i hi
   have hi:i < ops.size:=by simpa using hi
   simp [Array.getD_eq_getD_getElem?,hi]
  rw [List.countP_eq_length.2 this]
  simp
 ·intro j o hj
  exfalso
  simp only [Array.getD_eq_getD_getElem?,Array.getElem?_replicate] at hj
  split at hj<;>simp at hj
 refine R.congr (fun t=>?_) ?_ (rH _ _ _ _)
 ·refine nN out s _ t 0 ops.size (Nat.zero_le _) fun i _ hi h=>?_
  simp only [Array.getD_eq_getD_getElem?,Array.getElem?_replicate] at h
  split at h<;>simp at h
 refine qO out s _ 0 ops.size (Nat.zero_le _) fun i _ hi h=>?_
 simp only [Array.getD_eq_getD_getElem?,Array.getElem?_replicate] at h
 split at h<;>simp at h
end
open Go.RowKit
section
variable {P:Program} {T:TypeId→Option TI}
theorem F5 {op:BinOp} {t:TypeId} {H:ay} {x y:AV} {r:OV} (h:dZ T op t H x y=some r):r.H=H∧∀ H2,dZ T op t H2 x y=some { r with H:=H2 }:=by
 unfold dZ at h ⊢
 split at h<;>(try split at h)<;>simp only [Option.some.injEq,reduceCtorEq] at h<;>subst h<;>exact ⟨rfl,fun _=>rfl⟩
theorem Bk {ti:TI} {H:ay} {x y:AV} {r:OV} (h:kx ti H x y=some r):r.H=H∧∀ H2,kx ti H2 x y=some { r with H:=H2 }:=by
 unfold kx at h ⊢
 split at h
 ·split at h
  ·rename_i hk
   split at h<;>simp only [Option.some.injEq,reduceCtorEq] at h
   subst h
   refine ⟨rfl,fun H2=>?_⟩
   simp [hk]
  cases h
 cases h
theorem GK {H:ay} {x:AV} {r:OV} (h:uu H x=some r):r.H=H∧∀ H2,uu H2 x=some { r with H:=H2 }:=by
 unfold uu at h ⊢
 split at h<;>simp only [Option.some.injEq,reduceCtorEq] at h<;>subst h<;>exact ⟨rfl,fun _=>rfl⟩
theorem HT {op:UnOp} {H:ay} {x:AV} {r:OV} (h:zj op H x=some r):r.H=H∧∀ H2,zj op H2 x=some { r with H:=H2 }:=by
 unfold zj at h ⊢
 split at h<;>(try split at h)<;>simp only [Option.some.injEq,reduceCtorEq] at h<;>subst h<;>exact ⟨rfl,fun _=>rfl⟩
theorem D4 {H:ay} {a b x:AV} {r:OV} (h:lN a b H x=some r):r.H=H∧∀ H2,lN a b H2 x=some { r with H:=H2 }:=by
 unfold lN at h ⊢
 split at h<;>simp only [Option.some.injEq,reduceCtorEq] at h<;>subst h<;>exact ⟨rfl,fun _=>rfl⟩
theorem CW {src dst:TypeId} {H:ay} {x:AV} {r:OV} (h:ns T src dst H x=some r):r.H=H∧∀ H2,ns T src dst H2 x=some { r with H:=H2 }:=by
 unfold ns at h ⊢
 split at h<;>(try split at h)<;>simp only [Option.some.injEq,reduceCtorEq] at h<;>subst h<;>exact ⟨rfl,fun _=>by simp_all⟩
theorem rY {ti:TI} {f:Nat} {H:ay} {x:AV} {r:OV} (h:dX ti f H x=some r):r.H=H∧∀ H2,dX ti f H2 x=some { r with H:=H2 }:=by
 unfold dX at h ⊢
 split at h<;>(try split at h)<;>(try split at h)<;>simp only [Option.some.injEq,reduceCtorEq] at h<;>subst h<;>exact ⟨rfl,fun _=>by simp_all⟩
theorem B5 {ti:TI} {f:Nat} {H:ay} {x:AV} {r:OV} (h:kX T ti f H x=some r):r.H=H∧∀ H2,kX T ti f H2 x=some { r with H:=H2 }:=by
 unfold kX at h ⊢
 split at h
 ·split at h
  ·split at h
   ·rename_i tf htf
    cases hr:dc tf.kind<;>rw [hr] at h<;>simp only [cond_true,cond_false,Option.some.injEq] at h<;>subst h<;>exact ⟨rfl,fun _=>by simp_all⟩
   cases h
  cases h
 cases h
theorem sa {ti:TI} {H:ay} {x y:AV} {r:OV} (h:dm T ti H x y=some r):r.H=H∧∀ H2,dm T ti H2 x y=some { r with H:=H2 }:=by
 unfold dm at h ⊢
 split at h<;>(try split at h)<;>(try split at h)<;>(try split at h)<;>simp only [Option.some.injEq,reduceCtorEq] at h<;>subst h<;>exact ⟨rfl,fun _=>by simp_all⟩
theorem Bv {ti:TI} {H:ay} {x:AV} {lo hi:Option AV} {r:OV} (h:kV T ti H x lo hi=some r):r.H=H∧∀ H2,kV T ti H2 x lo hi=some { r with H:=H2 }:=by
 unfold kV at h ⊢
 split at h<;>(try split at h)<;>(try split at h)<;>(try split at h)<;>simp only [Option.some.injEq,reduceCtorEq] at h<;>subst h<;>exact ⟨rfl,fun _=>by simp_all⟩
theorem vU {i:Nat} {H:ay} {x:AV} {r:OV} (h:ew i H x=some r):r.H=H∧∀ H2,ew i H2 x=some { r with H:=H2 }:=by
 unfold ew at h ⊢
 split at h<;>simp only [Option.some.injEq,reduceCtorEq] at h<;>subst h<;>exact ⟨rfl,fun _=>rfl⟩
theorem Gh {ti:TI} {H:ay} {x:AV} {r:OV} (h:tj ti H x=some r):r.H=H∧∀ H2,tj ti H2 x=some { r with H:=H2 }:=by
 unfold tj at h ⊢
 split at h<;>(try split at h)<;>simp only [Option.some.injEq,reduceCtorEq] at h<;>subst h<;>exact ⟨rfl,fun _=>by simp_all⟩
theorem qH {f:Int→Int→Int} {H:ay} {l:List AV} {r:OV} (h:fF f H l=some r):r.H=H∧∀ H2,fF f H2 l=some { r with H:=H2 }:=by
 unfold fF at h ⊢
 split at h<;>simp only [Option.some.injEq,reduceCtorEq] at h<;>subst h<;>exact ⟨rfl,fun _=>rfl⟩
theorem BC {ti:TI} {H:ay} {l:List (Nat × AV)} {r:OV} (h:kF T ti H l=some r):r.H=H∧∀ H2,kF T ti H2 l=some { r with H:=H2 }:=by
 unfold kF at h ⊢
 split at h<;>(try split at h)<;>(try split at h)<;>simp only [Option.some.injEq,reduceCtorEq] at h<;>subst h<;>exact ⟨rfl,fun _=>by simp_all⟩
theorem qC {ti:TI} {n:Nat} {H:ay} {l:List (Nat × AV)} {r:OV} (h:dq T ti H n l=some r):r.H=H∧∀ H2,dq T ti H2 n l=some { r with H:=H2 }:=by
 unfold dq at h ⊢
 split at h<;>(try split at h)<;>(try split at h)<;>simp only [Option.some.injEq,reduceCtorEq] at h<;>subst h<;>exact ⟨rfl,fun _=>by simp_all⟩
theorem qJ {ti:TI} {ok:Bool} {H:ay} {x y:AV} {r:OV} (h:fD T ti ok H x y=some r):r.H=H:=by
 unfold fD at h
 split at h
 ·split at h
  ·split at h
   ·split at h
    ·simp only [Option.some.injEq] at h
     subst h; rfl
    cases h
   cases h
  cases h
 cases h
theorem rM {ti:TI} {H:ay} {x:AV} {r:OV} (h:ja ti H x=some r):r.H=H:=by
 unfold ja at h
 split at h
 ·split at h
  ·cases hr:dc ti.kind<;>rw [hr] at h<;>simp only [cond_true,cond_false,Option.some.injEq] at h<;>subst h<;>rfl
  ·cases hr:dc ti.kind<;>rw [hr] at h<;>simp only [cond_true,cond_false,Option.some.injEq] at h<;>subst h<;>rfl
  ·cases h
  ·cases h
  ·cases h
  cases h
 ·cases hr:dc ti.kind<;>rw [hr] at h<;>simp only [cond_true,cond_false,Option.some.injEq] at h<;>subst h<;>rfl
 cases h
theorem nK {f:FuncId} {H:ay} {l:List AV} {r:OV} (h:eN f H l=some r):r.H=H:=by
 unfold eN at h
 split at h<;>simp only [Option.some.injEq,reduceCtorEq] at h
 subst h; rfl
theorem mP {s s2:St} {op:Op} (h:∀ x∈op.operands,s2.ev x=s.ev x) (hH:s2.H=s.H):bZ T s2 op=bZ T s op:=by
 have parts:∀ ps:Array (Nat × Operand),(∀ x∈(ps.toList.map (·.2)).toArray,s2.ev x=s.ev x)→(ps.toList.map fun p=>(p.1,s2.ev p.2))=ps.toList.map fun p=>(p.1,s.ev p.2):=by
  intro ps hp
  apply List.map_congr_left
  intro q hq
  rw [hp q.2 (by simpa using ⟨q.1,by simpa using hq⟩)]
 have opts:∀ o:Option Operand,(∀ x∈o.toArray,s2.ev x=s.ev x)→o.map s2.ev=o.map s.ev:=by
  intro o ho
  cases o with
  | none=>rfl
  | some x=>simp [ho x (by simp)]
 have lists:∀ l:Array Operand,(∀ x∈l,s2.ev x=s.ev x)→l.toList.map s2.ev=l.toList.map s.ev:=by
  intro l hl
  apply List.map_congr_left
  intro x hx
  exact hl x (by simpa using hx)
 cases op<;>simp only [Op.operands] at h
 case call c =>
  obtain ⟨callee,args,ts⟩:=c
  cases callee with
  | builtin b =>
   simp only [bZ,hH]
   rw [lists args fun x hx=>h x (by simpa [Call.operands] using hx)]
  | _=>simp [bZ]
 case slice t x lo hi mx =>
  cases mx with
  | none =>
   simp only [bZ,hH]
   rw [h x (by simp),opts lo fun y hy=>h y (by simp at hy ⊢; simp [hy]),opts hi fun y hy=>h y (by simp at hy ⊢; simp [hy])]
  | some _=>simp [bZ]
 case makeFunc fn first caps =>
  cases fn with
  | func f =>
   simp only [bZ,hH]
   rw [lists caps fun x hx=>h x (by simp [hx])]
  | _=>simp [bZ]
 case makeMap t r =>
  cases r with
  | none=>simp only [bZ,hH]
  | some _=>simp [bZ]
 case build t ps=>simp only [bZ,hH]; rw [parts ps fun x hx=>h x hx]
 case buildSlice t n ps=>simp only [bZ,hH]; rw [parts ps fun x hx=>h x hx]
 all_goals simp only [bZ,hH]
 all_goals first|rfl|(simp only [List.mem_toArray,List.mem_cons,List.not_mem_nil,or_false,forall_eq_or_imp,forall_eq] at h; simp only [h])
theorem ju {s:St} {op:Op} {r:OV} (hT:jM op=false) (h:bZ T s op=some r):r.H=s.H∧∀ H2,bZ T { s with H:=H2 } op=some { r with H:=H2 }:=by
 have hev:∀ (H2:ay) (x:Operand),({ s with H:=H2 } : St).ev x=s.ev x:=fun H2 x=>by cases x<;>rfl
 have hev' : ∀ (H2:ay),({ s with H:=H2 } : St).ev=s.ev:=fun H2=>funext (hev H2)
 cases op<;>simp only [jM,Bool.true_eq_false] at hT
 case call c =>
  obtain ⟨callee,args,ts⟩:=c
  cases callee with
  | builtin b =>
   simp only [bZ,hev'] at h ⊢
   cases b<;>simp only [Bool.true_eq_false] at hT
   ·unfold cJ at h ⊢
    split at h<;>simp only [reduceCtorEq] at *
    rename_i x t
    split at h
    ·exact Gh h
    cases h
   ·simp only [cJ] at h ⊢
    exact qH h
   simp only [cJ] at h ⊢
   exact qH h
  | _=>simp [bZ] at h
 all_goals simp only [bZ,hev'] at h ⊢
 case move=>cases h; exact ⟨rfl,fun _=>rfl⟩
 case assign=>cases h; exact ⟨rfl,fun _=>rfl⟩
 case pick=>exact D4 h
 case binOp=>exact F5 h
 case unOp=>exact HT h
 case nilCheck=>exact GK h
 case index =>
  split at h
  ·exact Bk h
  cases h
 case convert=>exact CW h
 case extract=>exact vU h
 case fieldAddr =>
  split at h
  ·exact rY h
  cases h
 case field =>
  split at h
  ·rename_i x _ _ _ _
   cases hl:(s.ev x).isAgg<;>rw [hl] at h
   ·cases h
   simp only [cond_true] at h ⊢; exact B5 h
  cases h
 case indexAddr =>
  split at h
  ·exact sa h
  cases h
 case slice t x lo hi mx =>
  cases mx with
  | none =>
   simp only at h ⊢
   split at h
   ·exact Bv h
   cases h
  | some _=>simp at h
 case build =>
  split at h
  ·exact BC h
  cases h
 case buildSlice =>
  split at h
  ·exact qC h
  cases h
theorem Br {s:St} {op:Op} {r:OV} (hW:k8 op=false) (h:bZ T s op=some r):r.H=s.H:=by
 by_cases hT:jM op=false
 ·exact (ju hT h).1
 rw [Bool.not_eq_false] at hT
 cases op<;>simp only [jM,k8,Bool.true_eq_false,Bool.false_eq_true] at hT hW
 case load =>
  simp only [bZ] at h
  split at h
  ·exact rM h
  cases h
 case makeFunc fn first caps =>
  cases fn with
  | func f =>
   simp only [bZ] at h
   cases hf:first.isEmpty<;>rw [hf] at h
   ·cases h
   exact nK h
  | _=>simp [bZ] at h
 case call c =>
  obtain ⟨callee,args,ts⟩:=c
  cases callee with
  | builtin b =>
   simp only [bZ] at h
   unfold cJ at h
   split at h<;>simp_all
  | _=>simp [bZ] at h
 case lookup =>
  simp only [bZ] at h
  split at h
  ·exact qJ h
  cases h
 all_goals simp [bZ] at h
theorem Dd (hT:∀ t ti,T t=some ti→bu P t=some ti) {o:Oper} {s:St} {r:OV} (h:bZ T s o.op=some r) (hvc:r.vc):Dc P o s r.av r.H:=by
 refine ⟨fun s2 hn ha hH=>?_,fun hf=>⟨(ju hf h).1,fun s2 hn ha=>?_⟩,fun hw=>Br hw h⟩
 ·have:=mP (T:=T) ha hH
  rw [h] at this
  exact (dP hT this hvc).wp
 have h1:=(ju hf h).2 s2.H
 have:=mP (T:=T) (s:={ s with H:=s2.H }) (s2:=s2) (op:=o.op) (fun x hx=>by rw [ha x hx]; cases x<;>rfl) rfl
 rw [h1] at this
 exact (dP hT this hvc).wp
inductive X where
 | run (vc:Prop) (s:St)
 | stop (vc:Prop) (rest:List Oper) (s:St)
def au (s:St):Option Tmp→Prop
 | none=>True
 | some t=>t < s.n
def after (o:Oper) (s:St) (r:OV):St:=({ s with H:=r.H } : St).put o.dst r.av
def BD (T:TypeId→Option TI) (all:Array Oper) (o:Oper) (rest:List Oper) (vc:Prop) (s:St):X:=
 match bz all s o with
 | some true =>
  match bZ T s o.op with
  | some r=>.run (vc∧au s o.dst∧r.vc) (after o s r)
  | none=>.stop vc (o :: rest) s
 | some false=>.run (vc∧au s o.dst) (s.put o.dst (.p (.tup [])))
 | none=>.stop vc (o :: rest) s
def tV (T:TypeId→Option TI) (all:Array Oper):List Oper→X→X
 | [],x=>x
 | o :: r,.run vc s=>tV T all r (BD T all o r vc s)
 | _ :: _,.stop vc rest s=>.stop vc rest s
def iV (P:Program) (draw:Bool) (all:Array Oper) (rest:List Oper) (K:St→Prop) (s:St):Prop:=∃ s',n4 P draw all rest s s'∧K s'
def fin (P:Program) (draw:Bool) (all:Array Oper) (K:St→Prop):X→Prop
 | .run vc s=>vc∧K s
 | .stop vc rest s=>vc∧iV P draw all rest K s
theorem cT {s:St} {d:Option Tmp} (h:au s d):∀ t,d=some t→t < s.n:=by
 rintro t rfl; exact h
theorem rf (all:Array Oper) (l:List Oper) (vc:Prop) (rest:List Oper) (s:St):tV T all l (.stop vc rest s) = .stop vc rest s:=by cases l<;>rfl
theorem kR (hT:∀ t ti,T t=some ti→bu P t=some ti) {draw:Bool} {all:Array Oper} {K:St→Prop} : ∀ (ops:List Oper) (vc:Prop) (s:St),fin P draw all K (tV T all ops (.run vc s))→vc∧iV P draw all ops K s
 | [],vc,s,h=>⟨h.1,s,.nil s,h.2⟩
 | o :: r,vc,s,h=>by
  simp only [tV,BD] at h
  split at h
  ·rename_i hg
   split at h
   ·rename_i ov hov
    obtain ⟨⟨h1,h2,h3⟩,s',hr,hK⟩:=kR hT r _ _ h
    exact ⟨h1,s',.cons (.op s ov.av ov.H hg (cT h2) (dP hT hov h3).wp fun _=>Dd hT hov h3) hr,hK⟩
   rw [rf] at h; exact h
  ·rename_i hg
   obtain ⟨⟨h1,h2⟩,s',hr,hK⟩:=kR hT r _ _ h
   exact ⟨h1,s',.cons (.skip s hg (cT h2)) hr,hK⟩
  rw [rf] at h; exact h
theorem aa (hT:∀ t ti,T t=some ti→bu P t=some ti) {draw:Bool} {all:Array Oper} {rest:List Oper} {K:St→Prop} {s:St} (h:fin P draw all K (tV T all rest (.run True s))):iV P draw all rest K s:=
 (kR hT rest True s h).2
end
open Go.RowKit
def Holds (P:Program) (c:Code) (Q:Exit→St→Prop) (s:St):Prop:=
 ∀ (r:Option Nat) (ds:List Deferred) C m (a:Act) w,Rel C m s a.tmps w→a.defers=ds→rm r P c (fun e a' w'=>∃ s' m',Q e s'∧Rel C m' s' a'.tmps w'∧a'.defers=ds) a w
def H6 (K:St→Prop) (Q:Exit→St→Prop):Exit→St→Prop
 | .normal,s=>K s
 | e,s=>Q e s
def Hx (id:Nat) (Q:Exit→St→Prop):Exit→St→Prop
 | .exit j,s=>if j=id then Q .normal s else Q (.exit j) s
 | e,s=>Q e s
section
variable {P:Program} {Q:Exit→St→Prop} {s:St}
theorem IU {K:St→Prop} (h:K s):H6 K Q .normal s:=h
theorem HE {K:St→Prop} (h:Q .ret s):H6 K Q .ret s:=h
theorem HG {K:St→Prop} {id:Nat} (h:Q (.exit id) s):H6 K Q (.exit id) s:=h
theorem Hy {id:Nat} (h:Q .normal s):Hx id Q .normal s:=h
theorem Ih {id:Nat} (h:Q .ret s):Hx id Q .ret s:=h
theorem Io {id:Nat} (h:Q .normal s):Hx id Q (.exit id) s:=by simp only [Hx,if_true]; exact h
theorem FM {x y:Code} (h:Holds P x (H6 (Holds P y Q) Q) s):Holds P (.seq x y) Q s:=by
 intro r ds C m a w R hd
 refine Ed (gY (h r ds C m a w R hd) fun e a' w' ⟨s',m',h1,h2,h3⟩=>?_)
 cases e with
 | normal=>exact h1 r ds C m' a' w' h2 h3
 | _=>exact ⟨s',m',h1,h2,h3⟩
theorem Cm {id:Nat} {c:Code} (h:Holds P c (Hx id Q) s):Holds P (.block id c) Q s:=by
 intro r ds C m a w R hd
 refine yJ (gY (h r ds C m a w R hd) fun e a' w' ⟨s',m',h1,h2,h3⟩=>?_)
 cases e with
 | exit j =>
  simp only [Hx,Exit.inBlock] at h1 ⊢
  by_cases e:j=id
  ·rw [if_pos e] at h1 ⊢; exact ⟨s',m',h1,h2,h3⟩
  rw [if_neg e] at h1 ⊢; exact ⟨s',m',h1,h2,h3⟩
 | _=>exact ⟨s',m',h1,h2,h3⟩
theorem CZ (h:Q .normal s):Holds P .skip Q s:=fun _ _ _ m _ _ R hd=>BI ⟨s,m,h,R,hd⟩
theorem D8 {id:Nat} (h:Q (.exit id) s):Holds P (.exit id) Q s:=fun _ _ _ m _ _ R hd=>Cg ⟨s,m,h,R,hd⟩
theorem Gc (h:Q .ret s):Holds P .ret Q s:=fun _ _ _ m _ _ R hd=>ED ⟨s,m,h,R,hd⟩
def Fa (s:St) (c:Operand):Option Bool:=
 match s.ev c with
 | .p (.bool b)=>some b
 | _=>none
theorem ao {c:Operand} {x y:Code} {b:Bool} (hc:Fa s c=some b) (hx:b=true→Holds P x Q s) (hy:b=false→Holds P y Q s):Holds P (.cond c x y) Q s:=by
 intro r ds C m a w R hd
 have he:a.eval c = .bool b:=by
  have:=R.ev c
  unfold Fa at hc
  split at hc<;>simp only [Option.some.injEq,reduceCtorEq] at hc
  rename_i b' hb
  rw [hb] at this
  rw [← hc]
  exact this.aQ.fp
 exact py he (fun h=>hx h r ds C m a w R hd) (fun h=>hy h r ds C m a w R hd)
theorem ab {id:Nat} {l:List Oper} (h:∀ K:St→Prop,(∀ s',Q .normal s'→K s')→iV P false l.toArray l K s):Holds P (.region id l.toArray false) Q s:=by
 intro r ds C m a w R hd
 obtain ⟨s',hr,hK⟩:=h (Q .normal) fun _ h=>h
 exact oW (hr.sound R hd fun m' a' w' R' hd'=>⟨s',m',hK,R',hd'⟩)
def Ji (l:List Oper):Bool:=l.all fun o=>o.guard.isNone || !k8 o.op
theorem aT {id:Nat} {l:List Oper} (hm:P.follows .mixedOrders=true) (hok:(rX l.toArray && Ji l)=true) (h:∀ K:St→Prop,(∀ s',Q .normal s'→K s')→iV P true l.toArray l K s):Holds P (.region id l.toArray true) Q s:=by
 intro r ds C m a w R hd
 rw [Bool.and_eq_true] at hok
 obtain ⟨s',hr,hK⟩:=h (Q .normal) fun _ h=>h
 refine jw hm ?_
 refine vB hok.1 (fun o ho hg=>?_) hr (R.later ⟨rfl,rfl,rfl,Nat.le_refl _,fun _ _=>rfl,Nat.le_succ _⟩) hd fun m' a' w' R' hd'=>⟨s',m',hK,R',hd'⟩
 have:=(List.all_eq_true.1 hok.2) o ho
 cases hgu:o.guard with
 | none=>exact absurd hgu hg
 | some g=>rw [hgu] at this; simpa using this
def bt (n:Nat):AV→Bool
 | .sl k _ _=>k < n
 | .ptr k _=>k < n
 | .mptr k=>k < n
 | .sls k _ _ _=>k < n
 | .agg _=>false
 | .tup _=>false
 | .cl _ _=>false
 | .yv _ _ _=>false
 | _=>true
def bg (n:Nat):AV→Bool
 | .agg l=>l.all (bt n)
 | .tup l=>l.all (bt n)
 | .cl _ l=>l.all (bt n)
 | .yv k l _=>decide (k < n) && l.all (bt n)
 | x=>bt n x
def bw (π:List Nat):AV→AV
 | .sl k lo len=>.sl (π.getD k 0) lo len
 | .ptr k i=>.ptr (π.getD k 0) i
 | .mptr k=>.mptr (π.getD k 0)
 | .sls k lo len sz=>.sls (π.getD k 0) lo len sz
 | x=>x
def bl (π:List Nat):AV→AV
 | .agg l=>.agg (l.map (bw π))
 | .tup l=>.tup (l.map (bw π))
 | .cl f l=>.cl f (l.map (bw π))
 | .yv k l vs=>.yv (π.getD k 0) (l.map (bw π)) vs
 | x=>bw π x
def kn (π:List Nat):List (Nat × AV)→St→Prop
 | [],_=>True
 | (t,x) :: r,s=>s.get t=bl π x∧bg π.length x=true∧kn π r s
def kg (π:List Nat) (H:ay) (k:Nat):aM→Prop
 | .dead=>True
 | .own c=>(match aq H k with | .own d=>c.map (bl π)=d.take c.length∧c.all (bg π.length)=true | _=>False)
 | .fro c=>aq H k = .fro c
 | .mp kk d v=>aq H k = .mp kk d v
 | .lp r=>aq H k = .lp r
 | .dA i j=>aq H k = .dA i (π.getD j 0)∧j < π.length
def ky (π:List Nat) (H:ay):List Nat→ay→Prop
 | [],[]=>True
 | k :: ks,b :: r=>kg π H k b∧ky π H ks r
 | _,_=>False
def Le (π:List Nat) (s1 s:St):Prop:=s1.n=s.n∧π.Nodup∧ky π s.H π s1.H∧kn π s1.sl s
theorem kn.get {π:List Nat} : ∀ {l:List (Nat × AV)} {s:St},kn π l s→∀ t,lk l t = .dead∨(s.get t=bl π (lk l t)∧bg π.length (lk l t)=true)
 | [],s,_,t=>.inl rfl
 | (i,x) :: r,s,h,t=>by
  simp only [lk]
  cases e:(i == t)
  ·simp only [cond_false]; exact kn.get h.2.2 t
  simp only [cond_true]
  have:i=t:=by simpa using e
  subst this
  exact .inr ⟨h.1,h.2.1⟩
theorem ky.get {π:List Nat} {H:ay} : ∀ {ks:List Nat} {H1:ay},ky π H ks H1→ks.length=H1.length∧∀ (k:Nat) (b:aM),H1[k]? = some b→∃ k',ks[k]? = some k'∧kg π H k' b
 | [],[],_=>⟨rfl,fun k b h=>by simp at h⟩
 | k0 :: ks,b0 :: r,h=>by
  obtain ⟨h1,h2⟩:=ky.get h.2
  refine ⟨by simp [h1],fun k b hk=>?_⟩
  cases k with
  | zero=>simp at hk; subst hk; exact ⟨k0,rfl,h.1⟩
  | succ k=>simpa using h2 k b (by simpa using hk)
 | [],_ :: _,h=>h.elim
 | _ :: _,[],h=>h.elim
def cN (m:Map) (π:List Nat):Map:=fun k=>(π[k]?).bind m
theorem aJ.gO {rd rd' : PV→Value→Prop} {m:Map} {H H1:ay} {π:List Nat} (h1:∀ p v,rd p v→rd' p v) (hl1:H1.length=π.length) {x:AV} {v:Value} (h:aJ rd m H (bw π x) v) (hs:bt π.length x=true):aJ rd' (cN m π) H1 x v:=by
 cases x with
 | dead=>exact .dead v
 | p pv=>exact .p pv v (h1 _ _ h.aQ)
 | sl k lo len =>
  have hk:k < π.length:=by simpa [bt] using hs
  simp only [bw,List.getD_eq_getElem?_getD,List.getElem?_eq_getElem hk,Option.getD_some] at h
  cases h with
  | sl _ _ _ _ _ h =>
   refine .sl k lo len v (by omega) ?_
   unfold CP cN at *
   rw [List.getElem?_eq_getElem hk]
   exact h
 | ptr k i =>
  have hk:k < π.length:=by simpa [bt] using hs
  simp only [bw,List.getD_eq_getElem?_getD,List.getElem?_eq_getElem hk,Option.getD_some] at h
  cases h with
  | ptr _ _ _ _ h =>
   refine .ptr k i v (by omega) ?_
   unfold wU cN at *
   rw [List.getElem?_eq_getElem hk]
   exact h
 | agg l=>simp [bt] at hs
 | tup l=>simp [bt] at hs
 | cl f l=>simp [bt] at hs
 | me r=>cases h; exact .me r
 | sls k lo len sz =>
  have hk:k < π.length:=by simpa [bt] using hs
  simp only [bw,List.getD_eq_getElem?_getD,List.getElem?_eq_getElem hk,Option.getD_some] at h
  cases h with
  | sls _ _ _ _ _ _ h =>
   refine .sls k lo len sz v (by omega) ?_
   unfold ye cN at *
   rw [List.getElem?_eq_getElem hk]
   exact h
 | mptr k =>
  have hk:k < π.length:=by simpa [bt] using hs
  simp only [bw,List.getD_eq_getElem?_getD,List.getElem?_eq_getElem hk,Option.getD_some] at h
  cases h with
  | mptr _ _ _ h =>
   refine .mptr k v (by omega) ?_
   unfold ry cN at *
   rw [List.getElem?_eq_getElem hk]
   exact h
 | yv k l vs=>simp [bt] at hs
theorem aJ.tF {rd rd' : PV→Value→Prop} {m:Map} {H H1:ay} {π:List Nat} (h1:∀ p v,rd p v→rd' p v) (hl1:H1.length=π.length) {x:AV} {v:Value} (h:aJ rd m H (bl π x) v) (hs:bg π.length x=true):aJ rd' (cN m π) H1 x v:=by
 cases x with
 | agg l =>
  simp only [bl,bg] at h hs
  cases h with
  | agg _ vs hl hr =>
   refine .agg l vs (by simpa using hl) fun c hc=>?_
   have:=hr c (by simpa using hc)
   rw [List.getElem_map] at this
   exact this.gO h1 hl1 ((List.all_eq_true.1 hs) _ (List.getElem_mem hc))
 | tup l =>
  simp only [bl,bg] at h hs
  cases h with
  | tup _ vs hl hr =>
   refine .tup l vs (by simpa using hl) fun c hc=>?_
   have:=hr c (by simpa using hc)
   rw [List.getElem_map] at this
   exact this.gO h1 hl1 ((List.all_eq_true.1 hs) _ (List.getElem_mem hc))
 | cl f l =>
  simp only [bl,bg] at h hs
  cases h with
  | cl _ _ vs hl hr =>
   refine .cl f l vs (by simpa using hl) fun c hc=>?_
   have:=hr c (by simpa using hc)
   rw [List.getElem_map] at this
   exact this.gO h1 hl1 ((List.all_eq_true.1 hs) _ (List.getElem_mem hc))
 | yv k l vs =>
  simp only [bl,bg,Bool.and_eq_true,decide_eq_true_eq] at h hs
  obtain ⟨hk,hs⟩:=hs
  simp only [List.getD_eq_getElem?_getD,List.getElem?_eq_getElem hk,Option.getD_some] at h
  cases h with
  | yv _ _ _ _ _ h hl hr =>
   refine .yv k l vs v (by omega) ?_ (by simpa using hl) fun c hc=>?_
   ·unfold DR cN at *
    rw [List.getElem?_eq_getElem hk]
    exact h
   have:=hr c (by simpa using hc)
   rw [List.getElem_map] at this
   exact this.gO h1 hl1 ((List.all_eq_true.1 hs) _ (List.getElem_mem hc))
 | dead=>exact .dead v
 | p pv=>exact aJ.gO h1 hl1 h hs
 | sl k lo len=>exact aJ.gO h1 hl1 h hs
 | ptr k i=>exact aJ.gO h1 hl1 h hs
 | mptr k=>exact aJ.gO h1 hl1 h hs
 | me r=>exact aJ.gO h1 hl1 h hs
 | sls k lo len sz=>exact aJ.gO h1 hl1 h hs
def aM.wr:aM→Bool
 | .own _=>true
 | .mp _ _ _=>true
 | .lp _=>true
 | _=>false
theorem ky.own {π:List Nat} {H H1:ay} (g2:∀ (k:Nat) (b:aM),H1[k]? = some b→∃ k',π[k]? = some k'∧kg π H k' b):∀ (k:Nat) (c:List AV),H1[k]? = some (aM.own c)→∃ (k' : Nat) (d:List AV),π[k]? = some k'∧H[k']? = some (aM.own d)∧c.all (bg π.length)=true∧c.map (bl π)=d.take c.length:=by
 intro k c hk
 obtain ⟨k',a,b⟩:=g2 k _ hk
 unfold kg at b
 simp only at b
 split at b
 ·rename_i d hd
  exact ⟨k',d,a,bn hd,b.2,b.1⟩
 exact b.elim
theorem OK.weaken {C:Ctx} {m:Map} {H H1:ay} {π:List Nat} {w:World} (h3:ky π H π H1):∀ b,OK C m H w b→OK C (cN m π) H1 w b:=by
 refine fun b hb=>⟨hb.1,hb.2.1,fun k c l hk hl=>?_⟩
 obtain ⟨k',d,a1,a2,a3,_⟩:=ky.own (h3.get).2 k c hk
 simp only [cN,a1,Option.bind_some] at hl
 exact hb.2.2 k' _ l a2 hl
theorem Rel.xg {C C' : Ctx} {m:Map} {s1:St} {π:List Nat} {tmps tmps' : Array Value} {w:World} (R:Rel C m s tmps w) (e1:tmps'.size=s1.n) (hnd:π.Nodup) (h3:ky π s.H π s1.H) (ho:∀ b,OK C m s.H w b→OK C' (cN m π) s1.H w b)
  (hbel:b8 C'.B C'.w0 w) (hbase:∀ b,w.heap.size≤b→C'.B b) (hB:∀ (k:Nat) (b:aM) (l:Loc),s1.H[k]? = some b→b.wr=true→cN m π k=some l→C.B l.g→C'.B l.g)
  (hanc:∀ (k i j:Nat),s1.H[k]? = some (aM.dA i j)→j < s1.H.length∧cN m π j=C'.dA i) (hslot:∀ t,aJ (Reads (OK C' (cN m π) s1.H w) w) (cN m π) s1.H (s1.get t) (tmps'.getD t undef)):Rel C' (cN m π) s1 tmps' w:=by
 obtain ⟨g1,g2⟩:=h3.get
 have own:=ky.own g2
 have hr:∀ p v,Reads (OK C m s.H w) w p v→Reads (OK C' (cN m π) s1.H w) w p v:=fun p v h=>h.mono ho
 have mps:∀ (k:Nat) (kk:IntKind) (d:Int→Bool) (v:Int→PV),s1.H[k]? = some (aM.mp kk d v)→∃ k',π[k]? = some k'∧s.H[k']? = some (aM.mp kk d v):=by
  intro k kk d v hk
  obtain ⟨k',a,b⟩:=g2 k _ hk
  exact ⟨k',a,ck b (by simp)⟩
 refine ⟨R.laid.ext hr,hbel,hbase,e1,?_,?_,?_,hslot,fun k kk d v hk=>?_,fun k k' kk d v kk' d' v' l l' h1 h2 h3 h4 h5=>?_,hanc,?_⟩
 rotate_left 5
 ·have lps:∀ (k:Nat) (r:Loop),s1.H[k]? = some (aM.lp r)→∃ k',π[k]? = some k'∧s.H[k']? = some (aM.lp r):=by
   intro k r hk
   obtain ⟨k',a,b⟩:=g2 k _ hk
   exact ⟨k',a,ck b (by simp)⟩
  refine R.mp.2.2.2.ext (fun k=>π.getD k 0) (fun k r h=>?_) (fun k k' r r' h1 h2 e=>?_) (fun _ _ _ _ _ _=>rfl) fun k r l h hl h2=>hB k _ l h rfl hl h2
  ·obtain ⟨k',a1,a2⟩:=lps k r h
   have e:π.getD k 0=k':=by simp [List.getD,a1]
   exact ⟨by simp only [e]; exact a2,by simp only [cN,a1,Option.bind_some,e]⟩
  obtain ⟨j,a1,_⟩:=lps k r h1
  obtain ⟨j',b1,_⟩:=lps k' r' h2
  simp only [List.getD,a1,b1,Option.getD_some] at e
  obtain ⟨hk,hk2⟩:=List.getElem?_eq_some_iff.1 a1
  obtain ⟨hk',hk2'⟩:=List.getElem?_eq_some_iff.1 b1
  have hp:=List.pairwise_iff_getElem.1 hnd
  rcases Nat.lt_trichotomy k k' with h | h | h
  ·exact absurd (hk2.trans (e.trans hk2'.symm)) (hp k k' hk hk' h)
  ·exact h
  exact absurd (hk2'.trans (e.symm.trans hk2.symm)) (hp k' k hk' hk h)
 rotate_left 3
 ·obtain ⟨j,b1,b2⟩:=mps k kk d v hk
  have hm:cN m π k=m j:=by simp only [cN,b1,Option.bind_some]
  obtain ⟨l,ar,clk,vs,a1,a2,a3,a4,a5,a6,a7⟩:=R.mp.1 j kk d v b2
  exact ⟨l,ar,clk,vs,by rw [hm]; exact a1,hB k _ l hk rfl (by rw [hm]; exact a1) a2,a3,a4,a5,a6,fun z hz=>hr _ _ (a7 z hz)⟩
 ·obtain ⟨j,b1,b2⟩:=mps _ _ _ _ h1
  obtain ⟨j',c1,c2⟩:=mps _ _ _ _ h2
  simp only [cN,b1,c1,Option.bind_some] at h3 h4
  have:=R.mp.2.1 _ _ _ _ _ _ _ _ _ _ b2 c2 h3 h4 h5
  subst this
  obtain ⟨hk,hk2⟩:=List.getElem?_eq_some_iff.1 b1
  obtain ⟨hk',hk2'⟩:=List.getElem?_eq_some_iff.1 c1
  have hp:=List.pairwise_iff_getElem.1 hnd
  rcases Nat.lt_trichotomy k k' with h | h | h
  ·exact absurd (hk2.trans hk2'.symm) (hp k k' hk hk' h)
  ·exact h
  exact absurd (hk2'.trans hk2.symm) (hp k' k hk' hk h)
 ·intro k k' c c' l l' a1 a2 a3 a4 a5
  obtain ⟨j,_,b1,b2,_⟩:=own k c a1
  obtain ⟨j',_,b1',b2',_⟩:=own k' c' a2
  simp only [cN,b1,b1',Option.bind_some] at a3 a4
  have:=R.inj j j' _ _ l l' b2 b2' a3 a4 a5
  subst this
  obtain ⟨hk,hk2⟩:=List.getElem?_eq_some_iff.1 b1
  obtain ⟨hk',hk2'⟩:=List.getElem?_eq_some_iff.1 b1'
  have hp:=List.pairwise_iff_getElem.1 hnd
  rcases Nat.lt_trichotomy k k' with h | h | h
  ·exact absurd (hk2.trans hk2'.symm) (hp k k' hk hk' h)
  ·exact h
  exact absurd (hk2'.trans hk2.symm) (hp k' k hk' hk h)
 ·intro k c hk
  obtain ⟨k',d,a1,a2,eD,hcd⟩:=own k c hk
  have hm:cN m π k=m k':=by simp only [cN,a1,Option.bind_some]
  have hlen:c.length≤d.length:=by
   have:=congrArg List.length hcd
   simp only [List.length_map,List.length_take] at this
   omega
  rcases R.blk k' _ a2 with ⟨hc,hn⟩ | ⟨l,cur,e,b1,b2,b3,b4,b5,b6,b7⟩
  ·subst hc
   exact .inl ⟨List.eq_nil_of_length_eq_zero (by simpa using hlen),by rw [hm]; exact hn⟩
  refine .inr ⟨l,cur,e,by rw [hm]; exact b1,hB k _ l hk rfl (by rw [hm]; exact b1) b2,b3,b4,b5,by omega,fun j hj=>?_⟩
  have:=b7 j (by omega)
  have e:d[j]'(by omega)=bl π c[j]:=by
   have h3:(c.map (bl π))[j]? = (d.take c.length)[j]?:=by rw [hcd]
   rw [List.getElem?_map,List.getElem?_eq_getElem hj,List.getElem?_take,if_pos hj,List.getElem?_eq_getElem (by omega)] at h3
   simpa using h3.symm
  rw [e] at this
  exact this.tF hr g1.symm ((List.all_eq_true.1 eD) _ (List.getElem_mem hj))
 intro k c hk
 obtain ⟨k',a,b⟩:=g2 k _ hk
 have hm:cN m π k=m k':=by simp only [cN,a,Option.bind_some]
 rcases (R.fro k' c (gr b)).ext (m':=m) ho (fun _ _=>rfl) rfl with ⟨e1,e2⟩ | ⟨l,vs,e1,e2⟩
 ·exact .inl ⟨e1,by rw [hm]; exact e2⟩
 exact .inr ⟨l,vs,by rw [hm]; exact e1,e2⟩
theorem Rel.weaken {C:Ctx} {m:Map} {s1:St} {π:List Nat} {tmps:Array Value} {w:World} (R:Rel C m s tmps w) (h:Le π s1 s):Rel C (cN m π) s1 tmps w:=by
 obtain ⟨e1,hnd,h3,h2⟩:=h
 have ho:=OK.weaken (C:=C) (m:=m) (w:=w) h3
 obtain ⟨g1,g2⟩:=h3.get
 refine R.xg (by rw [e1]; exact R.size) hnd h3 ho R.below R.base (fun _ _ _ _ _ _ h=>h) (fun k i j hk=>?_) fun t=>?_
 ·obtain ⟨k',a,b⟩:=g2 k _ hk
  unfold kg at b
  simp only at b
  obtain ⟨b1,b2⟩:=b
  obtain ⟨_,c2⟩:=R.mp.2.2.1 k' i _ (ck b1 (by simp))
  refine ⟨by omega,?_⟩
  rw [← c2]
  simp only [cN,List.getElem?_eq_getElem b2,Option.bind_some,List.getD_eq_getElem?_getD,Option.getD_some]
 rcases h2.get t with e | ⟨e,eD⟩
 ·unfold St.get; rw [e]; exact .dead _
 have:=R.slot t
 rw [e] at this
 exact this.tF (fun p v h=>h.mono ho) g1.symm eD
theorem EV {c:Code} {s1:St} (π:List Nat) (hle:Le π s1 s) (h:Holds P c Q s1):Holds P c Q s:=
 fun r ds C m a w R hd=>h r ds C _ a w (R.weaken hle) hd
theorem aA {c:Code} {ι:Type} (S:ι→St) (I:ι→Prop) (μ:ι→Nat) (i0:ι) (h0:I i0) (π:List Nat) (hs:Le π (S i0) s)
  (step:∀ i,I i→Holds P c (H6 (fun s'=>∃ j π,I j∧μ j < μ i∧Le π (S j) s') Q) (S i)):Holds P (.loop c) Q s:=by
 intro r ds C m a w R hd
 let good:Nat→Act→World→Prop:=fun n a w=>∃ i m,I i∧μ i=n∧Rel C m (S i) a.tmps w∧a.defers=ds
 have least:∀ (p:Nat→Prop),(∃ n,p n)→∃ n,p n∧∀ k,p k→n≤k:=by
  intro p ⟨n,hn⟩
  induction n using Nat.strongRecOn with
  | _ n ih =>
   by_cases h:∃ k,k < n∧p k
   ·obtain ⟨k,hk,hp⟩:=h; exact ih k hk hp
   exact ⟨n,hn,fun k hp=>Nat.le_of_not_lt fun hk=>h ⟨k,hk,hp⟩⟩
 have hex:∀ a w,∃ n,(∃ k,good k a w)→good n a w∧∀ k,good k a w→n≤k:=by
  intro a w
  by_cases h:∃ k,good k a w
  ·obtain ⟨n,h1,h2⟩:=least _ h; exact ⟨n,fun _=>⟨h1,h2⟩⟩
  exact ⟨0,fun h'=>absurd h' h⟩
 let ms:Act→World→Nat:=fun a w=>Classical.choose (hex a w)
 have hms:∀ a w,(∃ k,good k a w)→good (ms a w) a w∧∀ k,good k a w→ms a w≤k:=fun a w=>Classical.choose_spec (hex a w)
 refine A9 (fun a w=>∃ k,good k a w) ms ⟨μ i0,i0,_,h0,rfl,R.weaken hs,hd⟩ fun a w hg=>?_
 obtain ⟨⟨i,m,hI,hμ,R,hd⟩,_⟩:=hms a w hg
 refine gY (step i hI r ds C m a w R hd) fun e a' w' ⟨s',m',h1,h2,h3⟩=>?_
 cases e with
 | normal =>
  obtain ⟨j,π',hJ,hlt,hle⟩:=h1
  have hg' : good (μ j) a' w':=⟨j,_,hJ,rfl,h2.weaken hle,h3⟩
  exact ⟨⟨_,hg'⟩,by have:=(hms a' w' ⟨_,hg'⟩).2 _ hg'; rw [hμ] at hlt; omega⟩
 | _=>exact ⟨s',m',h1,h2,h3⟩
end
open Go.RowKit
def dI (H:ay):AV→Option (Prop × PV × Bool)
 | .p v=>some (True,v,true)
 | .sl k lo len =>
  match aq H k with
  | .own c =>
   match eO ((c.drop lo).take len) with
   | some ps=>some (lo + len≤c.length∧ps.all PV.one=true,.list ps,false)
   | none=>none
  | .fro c=>some (lo + len≤c.length∧((c.drop lo).take len).all PV.one=true,.list ((c.drop lo).take len),true)
  | .dead=>none
  | .mp _ _ _=>none
  | .dA _ _=>none
  | .lp _=>none
 | .ptr k i =>
  match aq H k with
  | .fro c=>some (i≤c.length,.ptr (c.drop i),true)
  | .own c =>
   match eO (c.drop i) with
   | some ps=>some (i≤c.length,.ptr ps,false)
   | none=>none
  | .dead=>none
  | .mp _ _ _=>none
  | .dA _ _=>none
  | .lp _=>none
 | _=>none
def cy (f:AV→Option (Prop × PV × Bool)):List AV→Option (Prop × List PV × Bool)
 | []=>some (True,[],true)
 | x :: r =>
  match f x,cy f r with
  | some (p,v,b),some (q,l,c)=>some (p∧q,v :: l,b && c)
  | _,_=>none
def dO (H:ay):AV→Option (Prop × PV × Bool)
 | .agg l=>match cy (dI H) l with | some (p,ps,b)=>some (p,.agg ps,b) | none=>none
 | .cl f l=>match cy (dI H) l with | some (p,ps,b)=>some (p,.fn f ps,b) | none=>none
 | x=>dI H x
def uW (H:ay):AV→Option (Prop × PV × Bool)
 | .tup l=>match cy (dO H) l with | some (p,ps,b)=>some (p,.tup ps,b) | none=>none
 | x=>dO H x
section
variable {P:Program} {T:TypeId→Option TI} {C:Ctx} {m:Map} {s:St} {tmps:Array Value} {w:World}
def Jv (okA:Nat→Prop) (w w' : World) (b:Nat):Prop:=(okA b∨w.heap.size≤b)∧b < w'.heap.size
def fresh (okA:Nat→Prop) (w:World):Ctx:=⟨okA,fun b=>w.heap.size≤b,w,fun _=>none⟩
def Jx (C:Ctx) (w:World) (b:Nat):Prop:=(C.okA b∨C.B b)∧b < w.heap.size
def qU (C:Ctx) (m:Map) (H:ay) (w:World) (pv:PV) (b:Bool) (v:Value):Prop:=Reads (Jx C w) w pv v∧(b=true→Reads (OK C m H w) w pv v)
theorem vA {H:ay} (b:Nat) (h:OK C m H w b):Jx C w b:=⟨h.1,h.2.1⟩
theorem qU.of {H:ay} {pv:PV} {b:Bool} {v:Value} (h:Reads (OK C m H w) w pv v):qU C m H w pv b v:=⟨h.mono (fun b hb=>vA b hb),fun _=>h⟩
theorem mg {ok:Nat→Prop} {ps:List PV} {g o len cap:Nat} (hl:ps.length=len) (hone:ps.all PV.one=true) (hok:ok g) (hcap:len≤cap) (vs:Nat→Value)
  (hc:∀ j,j < len→w.cell? ⟨g,o + j,none⟩=some (vs j)) (hr:∀ j (h:j < ps.length),Reads ok w ps[j] (vs j)):Reads ok w (.list ps) (.slice (some ⟨g,o,none⟩) len cap):=by
 subst hl
 have hf:=iL hone
 refine .list ps g o cap 1 vs hok (fun x hx=>?_) hcap (fun c hcl=>?_) fun c hcl=>?_
 ·rw [cells_one ((List.all_eq_true.1 hone) x hx)]; rfl
 ·rw [hf] at hcl; exact hc c hcl
 simp only [hf] at hcl ⊢; exact hr c hcl
theorem ka (R:Rel C m s tmps w) {x:AV} {v:Value} (hv:aJ (Reads (OK C m s.H w) w) m s.H x v) {p:Prop} {pv:PV} {b:Bool} (h:dI s.H x=some (p,pv,b)) (hp:p):qU C m s.H w pv b v:=by
 unfold dI at h
 split at h
 ·simp only [Option.some.injEq,Prod.mk.injEq] at h
  obtain ⟨_,rfl,rfl⟩:=h
  exact .of hv.aQ
 ·rename_i k lo len
  cases hv with
  | sl _ _ _ _ hk hs =>
   split at h
   ·rename_i c hg
    split at h<;>simp only [Option.some.injEq,Prod.mk.injEq,reduceCtorEq] at h
    rename_i ps hps
    obtain ⟨rfl,rfl,rfl⟩:=h
    obtain ⟨h1,h2⟩:=hp
    have hcs:=fP hps
    have hlen:ps.length=len:=by
     have:=congrArg List.length hcs
     simp only [List.length_take,List.length_drop,List.length_map] at this
     omega
    refine ⟨?_,fun h=>by cases h⟩
    rcases hs with ⟨rfl,ad,rfl⟩ | ⟨l,cap,hm,rfl,hc1,hc2⟩
    ·have:ps=[]:=List.eq_nil_of_length_eq_zero hlen
     subst this
     exact .list0 _ _ fun _=>rfl
    rcases R.blk k c (bn hg) with ⟨_,hn⟩ | ⟨l',cur,e,hm2,hB,hh,hs1,hs3,hs2,hcells⟩
    ·rw [hm] at hn; cases hn
    rw [hm] at hm2; cases hm2
    refine mg hlen h2 ⟨.inr hB,(Array.getElem?_eq_some_iff.1 hh).1⟩ hc1 (fun j=>cur.getD (l.o + (lo + j)) undef) (fun j hj=>?_) fun j hj=>?_
    ·rw [Nat.add_assoc]; exact cell_of hh (by omega)
    have:=hcells (lo + j) (by omega)
    have e:c[lo + j]'(by omega) = .p ps[j]:=by
     have h3:((c.drop lo).take len)[j]? = (ps.map AV.p)[j]?:=by rw [hcs]
     rw [List.getElem?_take,if_pos (by omega),List.getElem?_drop,List.getElem?_eq_getElem (by omega),List.getElem?_map,List.getElem?_eq_getElem hj] at h3
     simpa using h3
    rw [e] at this
    exact this.aQ.mono (fun b hb=>vA b hb)
   ·rename_i c hg
    simp only [Option.some.injEq,Prod.mk.injEq] at h
    obtain ⟨rfl,rfl,rfl⟩:=h
    obtain ⟨h1,h2⟩:=hp
    have hlen:((c.drop lo).take len).length=len:=by simp only [List.length_take,List.length_drop]; omega
    refine .of ?_
    rcases hs with ⟨rfl,ad,rfl⟩ | ⟨l,cap,hm,rfl,hc1,hc2⟩
    ·simp only [List.take_zero]
     exact .list0 _ _ fun _=>rfl
    rcases R.fro k c (gr hg) with ⟨_,hn⟩ | ⟨l',vs,hm2,hB,hl,hcells⟩
    ·rw [hm] at hn; cases hn
    rw [hm] at hm2; cases hm2
    refine mg hlen h2 hB hc1 (fun j=>vs (lo + j)) (fun j hj=>?_) fun j hj=>?_
    ·rw [Nat.add_assoc]; exact (hcells (lo + j) (by omega)).1
    rw [hlen] at hj
    simp only [List.getElem_take,List.getElem_drop]
    exact (hcells (lo + j) (by omega)).2
   ·cases h
   ·cases h
   ·cases h
   cases h
 ·rename_i k i
  split at h
  ·rename_i c hg
   simp only [Option.some.injEq,Prod.mk.injEq] at h
   obtain ⟨rfl,rfl,rfl⟩:=h
   cases hv with
   | ptr _ _ _ hk hs =>
   obtain ⟨l,hm,rfl⟩:=hs
   rcases R.fro k c (gr hg) with ⟨_,hn⟩ | ⟨l',vs,hm2,hB,hl,hcells⟩
   ·rw [hm] at hn; cases hn
   rw [hm] at hm2; cases hm2
   refine .of (.ptr _ _ _ (fun j=>vs (i + j)) hB (fun j hj=>?_) fun j hj=>?_)
   ·simp only [List.length_drop] at hj
    rw [Nat.add_assoc]; exact (hcells (i + j) (by omega)).1
   simp only [List.length_drop] at hj
   simp only [List.getElem_drop]
   exact (hcells (i + j) (by omega)).2
  ·rename_i c hg
   split at h<;>simp only [Option.some.injEq,Prod.mk.injEq,reduceCtorEq] at h
   rename_i ps hps
   obtain ⟨rfl,rfl,rfl⟩:=h
   have hcs:=fP hps
   have hlen:ps.length=c.length - i:=by
    have:=congrArg List.length hcs
    simp only [List.length_drop,List.length_map] at this
    omega
   cases hv with
   | ptr _ _ _ hk hs =>
   obtain ⟨l,hm,rfl⟩:=hs
   refine ⟨?_,fun h=>by cases h⟩
   rcases R.blk k c (bn hg) with ⟨_,hn⟩ | ⟨l',cur,e,hm2,hB,hh,hs1,hs3,hs2,hcells⟩
   ·rw [hm] at hn; cases hn
   rw [hm] at hm2; cases hm2
   refine .ptr _ _ _ (fun j=>cur.getD (l.o + (i + j)) undef) ⟨.inr hB,(Array.getElem?_eq_some_iff.1 hh).1⟩ (fun j hj=>?_) fun j hj=>?_
   ·rw [Nat.add_assoc]; exact cell_of hh (by omega)
   have:=hcells (i + j) (by omega)
   have e:c[i + j]'(by omega) = .p ps[j]:=by
    have h3:(c.drop i)[j]? = (ps.map AV.p)[j]?:=by rw [hcs]
    rw [List.getElem?_drop,List.getElem?_eq_getElem (by omega),List.getElem?_map,List.getElem?_eq_getElem hj] at h3
    simpa using h3
   rw [e] at this
   exact this.aQ.mono (fun b hb=>vA b hb)
  ·cases h
  ·cases h
  ·cases h
  cases h
 cases h
theorem dB {f:AV→Option (Prop × PV × Bool)} {H:ay} {R0:AV→Value→Prop} (hf:∀ {x v p pv b},R0 x v→f x=some (p,pv,b)→p→qU C m H w pv b v) :
  ∀ (l:List AV) (vs:Nat→Value) {p:Prop} {ps:List PV} {b:Bool},(∀ c (h:c < l.length),R0 l[c] (vs c))→cy f l=some (p,ps,b)→p→ps.length=l.length∧(∀ c (h:c < ps.length),Reads (Jx C w) w ps[c] (vs c))∧(b=true→∀ c (h:c < ps.length),Reads (OK C m H w) w ps[c] (vs c))
 | [],vs,p,ps,b,_,h,_=>by
  simp only [cy,Option.some.injEq,Prod.mk.injEq] at h
  obtain ⟨_,rfl,_⟩:=h
  exact ⟨rfl,fun c h=>by simp at h,fun _ c h=>by simp at h⟩
 | x :: r,vs,p,ps,b,hr,h,hp=>by
  simp only [cy] at h
  split at h<;>simp only [Option.some.injEq,Prod.mk.injEq,reduceCtorEq] at h
  rename_i p1 v1 b1 q1 l1 c1 h1 h2
  obtain ⟨rfl,rfl,rfl⟩:=h
  have a1:=hf (hr 0 (by simp)) h1 hp.1
  obtain ⟨e1,e2,e3⟩:=dB (R0:=R0) (f:=f) (fun h1 h2 h3=>hf h1 h2 h3) r (fun c=>vs (c + 1)) (fun c hc=>by have:=hr (c + 1) (by simpa using hc); simpa using this) h2 hp.2
  refine ⟨by simp [e1],fun c hc=>?_,fun hb c hc=>?_⟩
  ·cases c with
   | zero=>exact a1.1
   | succ c=>exact e2 c (by simpa using hc)
  rw [Bool.and_eq_true] at hb
  cases c with
  | zero=>exact a1.2 hb.1
  | succ c=>exact e3 hb.2 c (by simpa using hc)
theorem fT (R:Rel C m s tmps w) {x:AV} {v:Value} (hv:aJ (Reads (OK C m s.H w) w) m s.H x v) {p:Prop} {pv:PV} {b:Bool} (h:dO s.H x=some (p,pv,b)) (hp:p):qU C m s.H w pv b v:=by
 unfold dO at h
 split at h
 ·rename_i l
  split at h<;>simp only [Option.some.injEq,Prod.mk.injEq,reduceCtorEq] at h
  rename_i p1 ps b1 hl
  obtain ⟨rfl,rfl,rfl⟩:=h
  cases hv with
  | agg _ vs hsz hr =>
   obtain ⟨e1,e2,e3⟩:=dB (fun {x v p pv b} (hx:aJ (Reads (OK C m s.H w) w) m s.H x v) h hp=>ka R hx h hp) l (fun c=>vs.getD c undef) hr hl hp
   exact ⟨.agg _ _ (by omega) e2,fun hb=>.agg _ _ (by omega) (e3 hb)⟩
 ·rename_i f l
  split at h<;>simp only [Option.some.injEq,Prod.mk.injEq,reduceCtorEq] at h
  rename_i p1 ps b1 hl
  obtain ⟨rfl,rfl,rfl⟩:=h
  cases hv with
  | cl _ _ vs hsz hr =>
   obtain ⟨e1,e2,e3⟩:=dB (fun {x v p pv b} (hx:aJ (Reads (OK C m s.H w) w) m s.H x v) h hp=>ka R hx h hp) l (fun c=>vs.getD c undef) hr hl hp
   exact ⟨.fn _ _ _ (by omega) e2,fun hb=>.fn _ _ _ (by omega) (e3 hb)⟩
 exact ka R hv h hp
theorem yU (R:Rel C m s tmps w) {x:AV} {v:Value} (hv:aJ (Reads (OK C m s.H w) w) m s.H x v) {p:Prop} {pv:PV} {b:Bool} (h:uW s.H x=some (p,pv,b)) (hp:p):qU C m s.H w pv b v:=by
 unfold uW at h
 split at h
 ·rename_i l
  split at h<;>simp only [Option.some.injEq,Prod.mk.injEq,reduceCtorEq] at h
  rename_i p1 ps b1 hl
  obtain ⟨rfl,rfl,rfl⟩:=h
  cases hv with
  | tup _ vs hsz hr =>
   obtain ⟨e1,e2,e3⟩:=dB (fun {x v p pv b} (hx:aJ (Reads (OK C m s.H w) w) m s.H x v) h hp=>fT R hx h hp) l (fun c=>vs.getD c undef) hr hl hp
   exact ⟨.tup _ _ (by omega) e2,fun hb=>.tup _ _ (by omega) (e3 hb)⟩
 exact fT R hv h hp
theorem p5 {ok ok' : Nat→Prop} {w' : World} {p:PV} {v:Value} (h:Reads ok w p v) (hf:p.gm=true):Reads ok' w' p v:=by
 have sc:∀ {p:PV} {v:Value},Reads ok w p v→(match p with | .int _ _=>true | .bool _=>true | .str _=>true | _=>false)=true→Reads ok' w' p v:=by
  intro p v h hf
  cases h<;>simp at hf
  ·exact .int _ _
  ·exact .bool _
  exact .str _
 have ag:∀ {l:List PV} {vs:Array Value},Reads ok w (.agg l) (.agg vs)→(l.all fun | .int _ _=>true | .bool _=>true | .str _=>true | _=>false)=true→Reads ok' w' (.agg l) (.agg vs):=by
  intro l vs h hf
  cases h with
  | agg _ _ hl hr =>
   refine .agg _ _ hl fun c hc=>sc (hr c hc) ?_
   have:=(List.all_eq_true.1 hf) l[c] (List.getElem_mem hc)
   exact this
 cases h with
 | int k i=>exact .int _ _
 | bool b=>exact .bool _
 | str s=>exact .str _
 | nil=>exact .nil
 | agg l vs hl hr=>exact ag (.agg l vs hl hr) hf
 | tup l vs hl hr =>
  refine .tup _ _ hl fun c hc=>?_
  have h1:=(List.all_eq_true.1 hf) l[c] (List.getElem_mem hc)
  have h2:=hr c hc
  generalize l[c]=x at h1 h2 ⊢
  generalize vs.getD c undef=v at h2 ⊢
  cases h2 with
  | int k i=>exact .int _ _
  | bool b=>exact .bool _
  | str s=>exact .str _
  | agg l vs hl hr=>exact ag (.agg l vs hl hr) h1
  | _=>simp at h1
 | _=>simp [PV.gm] at hf
def Jl (P:Program) (g:FuncId):Prop:=∃ fn,P.funcs[g]? = some fn∧(fn.name == "runtime.NumGoroutine")=false∧fn.body.isNone=false
def bR (P:Program) (f:FuncId) (args:List PV) (r:PV):Prop:=
 Jl P f∧∀ (okA:Nat→Prop) (w:World) (vals:Array Value),px okA w→vals.size=args.length→(∀ i (h:i < args.length),Reads okA w args[i] (vals.getD i undef)) →
  Calls P f vals w fun e w'=>∃ v,e = .returned v∧Below w.heap.size w w'∧Reads (Jv okA w w') w' r v
def gq (s:St) (fo:Operand) (args:Array Operand):Option (FuncId × List PV × Prop × Bool):=
 match s.ev fo with
 | .p (.fn g cap) =>
  match cy (dO s.H) (args.toList.map s.ev) with
  | some (p,pvs,b)=>some (g,pvs++cap,p,b)
  | none=>none
 | _=>none
theorem uF {s s2:St} {fo:Operand} {args:Array Operand} {ts:Array TypeId} (h:∀ x∈(Op.call { callee:=.value fo,args:=args,argTypes:=ts }).operands,s2.ev x=s.ev x) (hH:s2.H=s.H):gq s2 fo args=gq s fo args:=by
 simp only [Op.operands,Call.operands] at h
 have h1:s2.ev fo=s.ev fo:=h fo (by simp)
 have h2:args.toList.map s2.ev=args.toList.map s.ev:=List.map_congr_left fun x hx=>h x (by simp; right; simpa using hx)
 unfold gq
 rw [h1,h2,hH]
theorem mQ {o:Oper} {fo:Operand} {args:Array Operand} {ts:Array TypeId} (ho:o.op = .call { callee:=.value fo,args:=args,argTypes:=ts }) {g:FuncId} {avs:List PV} {p:Prop} {b:Bool} {r:PV}
  (hc:bR P g avs r) (hcall:gq s fo args=some (g,avs,p,b)) (hp:p) (hb:(b || r.gm)=true):fj P o s (.p r) s.H:=by
 intro C m a w K Q R hK
 unfold gq at hcall
 split at hcall
 ·rename_i g' cap hf
  split at hcall<;>simp only [Option.some.injEq,Prod.mk.injEq,reduceCtorEq] at hcall
  rename_i p' pvs b' hpl
  obtain ⟨rfl,rfl,rfl,rfl⟩:=hcall
  have hfv:=R.ev fo
  rw [hf] at hfv
  generalize hfe:a.eval fo=fv at hfv
  have hfv:=hfv.aQ
  cases hfv with
  | fn _ _ vs hcl hcr =>
   obtain ⟨⟨fn,hfn,hnm,hbd⟩,hcalls⟩:=hc
   obtain ⟨e1,e2,e3⟩:=dB (C:=C) (m:=m) (w:=w) (H:=s.H) (fun {x v p pv b} (hx:aJ (Reads (OK C m s.H w) w) m s.H x v) h hp=>fT R hx h hp) (args.toList.map s.ev) (fun c=>(args.toList.map a.eval).getD c undef) (fun c hc=>by
    simp only [List.length_map] at hc
    have:=R.ev (args.toList[c])
    simpa [List.getD,List.getElem?_map,List.getElem?_eq_getElem hc] using this) hpl hp
   simp only [List.length_map] at e1
   have hvals:∀ i (h:i < (pvs++cap).length),(args.map a.eval++vs).getD i undef=if i < pvs.length then (args.toList.map a.eval).getD i undef else vs.getD (i - pvs.length) undef:=by
    intro i hi
    simp only [Array.getD_eq_getD_getElem?]
    by_cases hip:i < pvs.length
    ·rw [if_pos hip,Array.getElem?_append_left (by simp at e1 ⊢; omega)]
     simp [List.getD]
    rw [if_neg hip,Array.getElem?_append_right (by simp at e1 ⊢; omega)]
    congr 2
    simp at e1 ⊢; omega
   have hrun:(execOp a.eval o).run P w = .ok (.enter g' (args.map a.eval++vs)) w:=by
    have hnm' : ¬ fn.name = "runtime.NumGoroutine":=by simpa using hnm
    have hbd' : ¬ fn.body=none:=by intro e; rw [e] at hbd; simp at hbd
    simp [execOp,ho,resolve,hfe,Deferred.ofValue,invoke,callFunc,hfn,hnm',hbd']
   refine eK (by rw [ho]; rfl) ?_
   unfold Oper.wp
   rw [hrun]
   simp only [Oper.upon]
   have hsz:(args.map a.eval++vs).size=(pvs++cap).length:=by simp at e1 ⊢; omega
   have done:∀ (okA:Nat→Prop),px okA w→(∀ i (h:i < (pvs++cap).length),Reads okA w (pvs++cap)[i] ((args.map a.eval++vs).getD i undef)) →
     (∀ w' v,Below w.heap.size w w'→Reads (Jv okA w w') w' r v→Reads (OK C m s.H w') w' r v)→Calls P g' (args.map a.eval++vs) w fun
      | .returned v,w''=>K (a.put o.dst v) w''
      | .panicked chain,w''=>Q (.panic chain) a w''
      | .outgrown,_=>LetsOut Q:=by
    intro okA h1 h2 h3
    refine (hcalls okA w _ h1 hsz h2).mono fun e w' ⟨v,he,hbl,hv⟩=>?_
    subst he
    exact hK v m w' (R.later hbl) (.p _ _ (h3 w' v hbl hv))
   cases b' with
   | true =>
    refine done (OK C m s.H w) R.Bw (fun i hi=>?_) fun w' v hbl hv=>?_
    ·rw [hvals i hi]
     by_cases hip:i < pvs.length
     ·rw [if_pos hip,List.getElem_append_left hip]; exact e3 rfl i hip
     rw [if_neg hip,List.getElem_append_right (by omega)]; exact hcr _ (by simp at hi; omega)
    refine hv.mono fun b hb=>?_
    obtain ⟨hb1,hb2⟩:=hb
    rcases hb1 with hb1 | hb1
    ·exact Rel.AO hbl b hb1
    refine ⟨.inr (R.base _ hb1),hb2,fun k c l hk hl e'=>?_⟩
    rcases R.blk k c hk with ⟨_,hn⟩ | ⟨l2,cur,e2,hl2,_,hg,_⟩
    ·rw [hl] at hn; cases hn
    rw [hl] at hl2; cases hl2
    have:=(Array.getElem?_eq_some_iff.1 hg).1
    have hb1:w.heap.size≤b:=hb1
    omega
   | false =>
    have hfl:r.gm=true:=by simpa using hb
    refine done (fun b=>b < w.heap.size) R.GG (fun i hi=>?_) fun w' v hbl hv=>p5 hv hfl
    rw [hvals i hi]
    by_cases hip:i < pvs.length
    ·rw [if_pos hip,List.getElem_append_left hip]; exact (e2 i hip).mono fun b hb=>hb.2
    rw [if_neg hip,List.getElem_append_right (by omega)]; exact (hcr _ (by simp at hi; omega)).mono fun b hb=>hb.2.1
 cases hcall
theorem A2 {o:Oper} {fo:Operand} {args:Array Operand} {ts:Array TypeId} (ho:o.op = .call { callee:=.value fo,args:=args,argTypes:=ts }) {g:FuncId} {avs:List PV} {p:Prop} {b:Bool} {r:PV}
  (hc:bR P g avs r) (hcall:gq s fo args=some (g,avs,p,b)) (hp:p) (hb:(b || r.gm)=true):Dc P o s (.p r) s.H:=by
 refine ⟨fun s2 hn ha hH=>?_,fun hf=>?_,fun _=>rfl⟩
 ·have:=uF (ts:=ts) (s:=s) (s2:=s2) (fo:=fo) (args:=args) (by rw [← ho]; exact ha) hH
  rw [hcall] at this
  rw [← hH]
  exact mQ ho hc this hp hb
 rw [ho] at hf; simp [jM] at hf
theorem ak {draw:Bool} {all:Array Oper} {rest:List Oper} {K:St→Prop} {dst:Option Tmp} {ty:TypeId} {pos:String} {aft:Array Edge} {gd:Option (Nat × Bool)} {fo:Operand} {args:Array Operand} {ts:Array TypeId} {g:FuncId} {avs:List PV} {p:Prop} {b:Bool} {r:PV}
  (hc:bR P g avs r) (hg:bz all s { dst:=dst,op:=.call { callee:=.value fo,args:=args,argTypes:=ts },type:=ty,pos:=pos,after:=aft,guard:=gd } = some true)
  (hcall:gq s fo args=some (g,avs,p,b)) (hb:(b || r.gm)=true) (hd:au s dst) (hp:p) (h:iV P draw all rest K (s.put dst (.p r))) :
  iV P draw all ({ dst:=dst,op:=.call { callee:=.value fo,args:=args,argTypes:=ts },type:=ty,pos:=pos,after:=aft,guard:=gd } :: rest) K s:=by
 obtain ⟨s',hr,hK⟩:=h
 exact ⟨s',.cons (.op s (.p r) s.H hg (cT hd) (mQ rfl hc hcall hp hb) fun _=>A2 rfl hc hcall hp hb) hr,hK⟩
def zl:Nat→List PV→List (Nat × AV)
 | _,[]=>[]
 | k,a :: r=>(k,.p a) :: zl (k + 1) r
def entry (n:Nat) (args:List PV):St:=⟨n,zl 0 args,[]⟩
def Cp (T:TypeId→Option TI) (s:St):ResultVar→Option (Prop × AV)
 | .tmp t=>some (True,s.get t)
 | .cell x t =>
  match T t with
  | some ti=>match ja ti s.H (s.get x) with | some r=>some (r.vc,r.av) | none=>none
  | none=>none
def mN (T:TypeId→Option TI) (s:St):List ResultVar→Option (Prop × List AV)
 | []=>some (True,[])
 | x :: r =>
  match Cp T s x,mN T s r with
  | some (p,v),some (q,l)=>some (p∧q,v :: l)
  | _,_=>none
def js (l:List AV):AV:=
 match l with
 | [x]=>x
 | l=>match eO l with | some ps=>.p (.tup ps) | none=>.tup l
def PV.nQ:PV→PV
 | .nil=>.list []
 | .nn l=>.list l
 | .nz=>.list []
 | p=>p
def PV.qS:PV→PV
 | .agg l=>.agg (l.map PV.nQ)
 | p=>p.nQ
def PV.norm:PV→PV
 | .tup l=>.tup (l.map PV.qS)
 | p=>p.qS
theorem nu {ok:Nat→Prop} {pv:PV} {v:Value} (h:Reads ok w pv v):Reads ok w pv.nQ v:=by
 unfold PV.nQ
 split
 ·exact h.tU
 ·exact h.sg
 ·cases h with
  | nz a cap=>exact .list0 _ _ fun h=>by cases h
 exact h
theorem nv {ok:Nat→Prop} {pv:PV} {v:Value} (h:Reads ok w pv v):Reads ok w pv.qS v:=by
 unfold PV.qS
 split
 ·cases h with
  | agg l vs hl hr =>
   refine .agg _ _ (by simpa using hl) fun c hc=>?_
   rw [List.getElem_map]
   exact nu (hr c (by simpa using hc))
 exact nu h
theorem vm {ok:Nat→Prop} {pv:PV} {v:Value} (h:Reads ok w pv v):Reads ok w pv.norm v:=by
 unfold PV.norm
 split
 ·cases h with
  | tup l vs hl hr =>
   refine .tup _ _ (by simpa using hl) fun c hc=>?_
   rw [List.getElem_map]
   exact nv (hr c (by simpa using hc))
 exact nv h
def Cf (T:TypeId→Option TI) (rs:List ResultVar) (r:PV) (s:St):Prop:=
 match mN T s rs with
 | some (p,l)=>match uW s.H (js l) with | some (q,pv,_)=>p∧q∧pv.norm=r | none=>False
 | none=>False
def DW (T:TypeId→Option TI) (rs:List ResultVar) (r:PV):Exit→St→Prop
 | .normal,s=>Cf T rs r s
 | .ret,s=>Cf T rs r s
 | _,_=>False
theorem v8:∀ (l:List PV) (k t:Nat),lk (zl k l) t=if k≤t then (match l[t - k]? with | some a=>.p a | none=>.dead) else .dead
 | [],k,t=>by simp [zl,lk]
 | a :: r,k,t=>by
  simp only [zl,lk]
  by_cases h:k=t
  ·subst h; simp
  rw [show (k == t)=false by simpa using h]
  simp only [cond_false]
  rw [v8 r (k + 1) t]
  by_cases hk:k≤t
  ·rw [if_pos (by omega),if_pos hk,show t - k=(t - (k + 1)) + 1 by omega]; rfl
  rw [if_neg (by omega),if_neg hk]
def uL (tmps:Array Value):ResultVar→Sem Value
 | .tmp t=>pure (tmps.getD t undef)
 | .cell a t=>do loadVar t (← asAddr (tmps.getD a undef))
theorem kP (fn:Func) (tmps:Array Value):results fn tmps=(do
  let vs ← fn.results.mapM (uL tmps)
  pure (if h:vs.size=1 then vs[0] else .tuple vs)):=by
 unfold results
 have:(fun x=>match x with
  | .tmp t=>pure (tmps.getD t undef)
  | .cell a t=>do loadVar t (← asAddr (tmps.getD a undef)):ResultVar→Sem Value)=uL tmps:=by
  funext x; cases x<;>rfl
 rw [← this]
 rfl
theorem DV (hT:∀ t ti,T t=some ti→bu P t=some ti) {a:Act} (R:Rel C m s a.tmps w) {x:ResultVar} {p:Prop} {av:AV} (h:Cp T s x=some (p,av)) (hp:p) :
  ∃ v,(uL a.tmps x).run P w = .ok v w∧aJ (Reads (OK C m s.H w) w) m s.H av v:=by
 cases x with
 | tmp t =>
  simp only [Cp,Option.some.injEq,Prod.mk.injEq] at h
  obtain ⟨_,rfl⟩:=h
  exact ⟨_,rfl,R.slot t⟩
 | cell b t =>
  simp only [Cp] at h
  split at h
  ·rename_i ti ht
   split at h<;>simp only [Option.some.injEq,Prod.mk.injEq,reduceCtorEq] at h
   rename_i r hr
   obtain ⟨rfl,rfl⟩:=h
   obtain ⟨_,v,hrun,hv⟩:=pS hT R (o:={ dst:=none,op:=.load t (.tmp b),type:=0,pos:="",after:=#[],guard:=none }) (x:=.tmp b) rfl ht (by simpa [St.ev] using hr) hp
   refine ⟨v,?_,hv⟩
   simp only [execOp,Instr.loadAt,Act.eval,Sem.run_bind] at hrun
   cases hpv:a.tmps.getD b undef with
   | pointer ad =>
    rw [hpv] at hrun
    cases ad with
    | some ad =>
     simp only [Instr.sureAddr,Sem.run_pure,Result.andThen_ok] at hrun
     simp only [uL,hpv,asAddr,Sem.run_bind,Sem.run_pure,Result.andThen_ok]
     cases hl:(loadVar t ad).run P w<;>rw [hl] at hrun<;>simp [Result.andThen] at hrun
     rw [hrun.1,hrun.2]
    | none=>simp [Instr.sureAddr] at hrun
   | _=>rw [hpv] at hrun; simp [Instr.sureAddr] at hrun
  cases h
theorem lW (hT:∀ t ti,T t=some ti→bu P t=some ti) {a:Act} (R:Rel C m s a.tmps w):∀ (l:List ResultVar) {p:Prop} {avs:List AV},mN T s l=some (p,avs)→p →
  ∃ vs:List Value,(l.mapM (uL a.tmps)).run P w = .ok vs w∧vs.length=avs.length∧∀ c (h:c < avs.length),aJ (Reads (OK C m s.H w) w) m s.H avs[c] (vs.getD c undef)
 | [],p,avs,h,_=>by
  simp only [mN,Option.some.injEq,Prod.mk.injEq] at h
  obtain ⟨_,rfl⟩:=h
  exact ⟨[],rfl,rfl,fun c h=>by simp at h⟩
 | x :: r,p,avs,h,hp=>by
  simp only [mN] at h
  split at h<;>simp only [Option.some.injEq,Prod.mk.injEq,reduceCtorEq] at h
  rename_i p1 v1 q1 l1 h1 h2
  obtain ⟨rfl,rfl⟩:=h
  obtain ⟨v,e1,e2⟩:=DV hT R h1 hp.1
  obtain ⟨vs,f1,f2,f3⟩:=lW hT R r h2 hp.2
  refine ⟨v :: vs,?_,by simp [f2],fun c hc=>?_⟩
  ·rw [List.mapM_cons]
   simp only [Sem.run_bind,e1,Result.andThen_ok,f1,Sem.run_pure]
  cases c with
  | zero=>exact e2
  | succ c=>simpa [List.getD] using f3 c (by simpa using hc)
theorem mo {ok:Nat→Prop} {H:ay} {l:List AV} {vs:List Value} (hl:vs.length=l.length) (hr:∀ c (h:c < l.length),aJ (Reads ok w) m H l[c] (vs.getD c undef)) :
  aJ (Reads ok w) m H (js l) (if h:vs.toArray.size=1 then vs.toArray[0] else .tuple vs.toArray):=by
 unfold js
 split
 ·rename_i x
  match vs,hl with
  | [v],_=>simpa using hr 0 (by simp)
 rename_i hne
 have h1:¬ vs.toArray.size=1:=by
  intro e
  have:l.length=1:=by simp at e; omega
  obtain ⟨x,rfl⟩:=List.length_eq_one_iff.1 this
  exact hne x rfl
 rw [dif_neg h1]
 have hr' : ∀ c (h:c < l.length),aJ (Reads ok w) m H l[c] (vs.toArray.getD c undef):=by
  intro c hc
  have:=hr c hc
  simpa [List.getD,Array.getD_eq_getD_getElem?] using this
 split
 ·rename_i ps hps
  have e:=fP hps
  subst e
  refine .p _ _ (.tup _ _ (by simpa using hl) fun c hc=>?_)
  have:=hr' c (by simpa using hc)
  simp only [List.getElem_map] at this
  exact this.aQ
 exact .tup _ _ (by simpa using hl) hr'
theorem aI (hT:∀ t ti,T t=some ti→bu P t=some ti) {f:FuncId} {fn:Func} {c:Code} {args:List PV} {r:PV} (hf:P.funcs[f]? = some fn) (hb:fn.body=some c) (hnm:(fn.name == "runtime.NumGoroutine")=false) (hn:args.length≤fn.ntmps)
  (h:Holds P c (DW T fn.results.toList r) (entry fn.ntmps args)):bR P f args r:=by
 refine ⟨⟨fn,hf,hnm,by rw [hb]; rfl⟩,fun okA w vals hok hsz hrd=>calls_of_wp hf hb (oT.1 ?_)⟩
 have hslot:∀ t,(vals++Array.replicate (fn.ntmps - vals.size) undef).getD t undef=if t < vals.size then vals.getD t undef else undef:=by
  intro t
  simp only [Array.getD_eq_getD_getElem?]
  by_cases ht:t < vals.size
  ·rw [if_pos ht,Array.getElem?_append_left ht]
  rw [if_neg ht,Array.getElem?_append_right (by omega),Array.getElem?_replicate]
  split<;>rfl
 have R:Rel (fresh okA w) (fun _=>none) (entry fn.ntmps args) (vals++Array.replicate (fn.ntmps - vals.size) undef) w:=by
  have hOK:∀ b,okA b→OK (fresh okA w) (fun _=>none) [] w b:=fun b hb=>⟨.inl hb,hok.1 b hb,fun k c l h=>by simp at h⟩
  refine ⟨fun g l hg=>(hok.2 g l hg).mono hOK,b8.refl _ _,fun _ h=>h,by simp [entry]; omega,fun k k' c c' l l' h=>by simp [entry] at h,fun k c h=>by simp [entry] at h,fun k c h=>by simp [entry] at h,fun t=>?_,fun k kk d v h=>by simp [entry] at h,fun k k' kk d v kk' d' v' l l' h=>by simp [entry] at h,fun k i j h=>by simp [entry] at h,fun k r h=>by simp [entry] at h,fun k k' r r' l l' h=>by simp [entry] at h⟩
  rw [hslot]
  unfold St.get entry
  simp only
  rw [v8]
  simp only [Nat.zero_le,if_true,Nat.sub_zero]
  by_cases ht:t < args.length
  ·rw [List.getElem?_eq_getElem ht,if_pos (by omega)]
   exact .p _ _ ((hrd t ht).mono hOK)
  rw [List.getElem?_eq_none (by omega)]
  exact .dead _
 refine gY (h none [] _ _ { tmps:=vals++Array.replicate (fn.ntmps - vals.size) undef,defers:=[] } w R rfl) fun e a' w' ⟨s',m',h1,h2,h3⟩=>?_
 have fini:Cf T fn.results.toList r s'→a'.defers=[]∧∃ v,(results fn a'.tmps).run P w' = .ok v w'∧∃ v_1,Ending.returned v = .returned v_1∧Below w.heap.size w w'∧Reads (Jv okA w w') w' r v_1:=by
  intro he
  unfold Cf at he
  split at he
  ·rename_i p l hl
   split at he
   ·rename_i q pv b hpk
    obtain ⟨hp,hq,rfl⟩:=he
    obtain ⟨vs,e1,e2,e3⟩:=lW hT h2 fn.results.toList hl hp
    have hv:=mo (w:=w') e2 e3
    have hpv:=yU h2 hv hpk hq
    refine ⟨h3,_,?_,_,rfl,h2.below.below (fun _ h=>h),vm hpv.1⟩
    rw [kP,Array.mapM_eq_mapM_toList]
    simp only [Sem.run_bind,Sem.run_map]
    rw [e1]
    simp only [Result.andThen_ok]
    rfl
   exact he.elim
  exact he.elim
 cases e with
 | normal=>exact fini h1
 | ret=>exact fini h1
 | _=>exact h1.elim
end
open Go.RowKit
section
variable {P:Program} {T:TypeId→Option TI} {C:Ctx} {m:Map} {s:St} {tmps:Array Value} {w:World} {Q:Exit→St→Prop}
theorem Rel.freeze (R:Rel C m s tmps w) {k:Nat} {c:List AV} {ps:List PV} (hk:aq s.H k = .own c) (hc:eO c=some ps):Rel C m { s with H:=aE s.H k (.fro ps) } tmps w:=by
 have hk:=bn hk
 have hkl:k < s.H.length:=(List.getElem?_eq_some_iff.1 hk).1
 have hcs:=fP hc
 have aq:∀ (j:Nat) (b:aM),(aE s.H k (.fro ps))[j]? = some b→(j=k∧b = .fro ps)∨(j ≠ k∧s.H[j]? = some b):=by
  intro j b h
  rw [cq] at h
  by_cases e:j=k
  ·rw [if_pos ⟨e,hkl⟩] at h; exact .inl ⟨e,(Option.some.inj h).symm⟩
  rw [if_neg (by simp [e])] at h; exact .inr ⟨e,h⟩
 have own:∀ (j:Nat) (d:List AV),(aE s.H k (.fro ps))[j]? = some (.own d)→j ≠ k∧s.H[j]? = some (.own d):=by
  intro j d h
  rcases aq j _ h with ⟨_,h⟩ | h
  ·cases h
  exact h
 have hok:∀ b,OK C m s.H w b→∀ j d l,(aE s.H k (.fro ps))[j]? = some (.own d)→m j=some l→l.g ≠ b:=fun b hb j d l h hl=>hb.2.2 j d l (own j d h).2 hl
 have ho:∀ b,OK C m s.H w b→OK C m (aE s.H k (.fro ps)) w b:=fun b h=>⟨h.1,h.2.1,hok b h⟩
 refine R.heap (b8.refl _ _) (by simp [aB]) (fun _ _=>rfl) hok (fun _ _=>rfl) ?_ ?_ ?_ (lA rfl)
 ·exact fun j j' c1 c2 l1 l2 h1 h2 h3 h4 h5=>R.inj j j' c1 c2 l1 l2 (own j _ h1).2 (own j' _ h2).2 h3 h4 h5
 ·exact fun j d h=>(R.blk j d (own j d h).2).ext (fun p v h=>h.ext ho fun _ _=>rfl) (by simp [aB]) (fun _ _=>rfl) rfl fun _ _=>rfl
 intro j d h
 rcases aq j _ h with ⟨rfl,h'⟩ | ⟨hne,h⟩
 ·cases h'
  rcases R.blk j c hk with ⟨hc0,hn⟩ | ⟨l,cur,e,hl,hB,hg,h1,h2,h3,hcells⟩
  ·subst hc0
   exact .inl ⟨by simpa using hcs,hn⟩
  have hlen:c.length=ps.length:=by rw [hcs]; simp
  refine .inr ⟨l,fun i=>cur.getD (l.o + i) undef,hl,⟨.inr hB,(Array.getElem?_eq_some_iff.1 hg).1,fun j' d' l' h' hl' e'=>?_⟩,by omega,fun i hi=>⟨cell_of hg (by omega),?_⟩⟩
  ·obtain ⟨h1,h2⟩:=own j' d' h'
   exact h1 (R.inj j' j d' c l' l h2 hk hl' hl e')
  have:=hcells i (by omega)
  have e:c[i]'(by omega) = .p ps[i]:=by simp [hcs]
  rw [e] at this
  exact this.aQ.mono ho
 exact (R.fro j d h).ext ho (fun _ _=>rfl) rfl
theorem bO {c:Code} (k:Nat) {b:List AV} {ps:List PV} (hk:aq s.H k = .own b) (hc:eO b=some ps) (h:Holds P c Q { s with H:=aE s.H k (.fro ps) }):Holds P c Q s:=
 fun r ds C m a w R hd=>h r ds C m a w (R.freeze hk hc) hd
theorem Rel.pure (R:Rel C m s tmps w) {t:Nat} {p:Prop} {pv:PV} (h:dO s.H (s.get t)=some (p,pv,true)) (hp:p):Rel C m { s with sl:=(t,.p pv) :: s.sl } tmps w:=by
 refine ⟨R.laid,R.below,R.base,R.size,R.inj,R.blk,R.fro,fun t'=>?_,R.mp⟩
 by_cases e:t=t'
 ·subst e
  have e2:({ s with sl:=(t,AV.p pv) :: s.sl } : St).get t = .p pv:=by simp [St.get,lk]
  rw [e2]
  exact .p _ _ ((fT R (R.slot t) h hp).2 rfl)
 have e2:({ s with sl:=(t,AV.p pv) :: s.sl } : St).get t' = s.get t':=by simp [St.get,lk,show (t == t')=false by simpa using e]
 rw [e2]
 exact R.slot t'
theorem oG {c:Code} (t:Nat) {p:Prop} {pv:PV} (hk:dO s.H (s.get t)=some (p,pv,true)) (hp:p) (h:Holds P c Q { s with sl:=(t,.p pv) :: s.sl }):Holds P c Q s:=
 fun r ds C m a w R hd=>h r ds C m a w (R.pure hk hp) hd
theorem GL (k:IntKind) (i:Int):(PV.int k i).cells=[.int k i]:=rfl
theorem C8 (b:Bool):(PV.bool b).cells=[.bool b]:=rfl
theorem Gs (b:ByteArray):(PV.str b).cells=[.str b]:=rfl
theorem En (l:List PV):(PV.list l).cells=[.list l]:=rfl
theorem IJ (l:List PV):(PV.nn l).cells=[.nn l]:=rfl
theorem F3:PV.nil.cells=[.nil]:=rfl
theorem FZ (l:List PV):(PV.agg l).cells=l:=rfl
theorem GX (l:List PV):(PV.ptr l).cells=[.ptr l]:=rfl
theorem HA (f:FuncId) (l:List PV):(PV.fn f l).cells=[.fn f l]:=rfl
theorem Ga:(true == true)=true:=rfl
theorem Gk:(true == false)=false:=rfl
theorem FI:(false == true)=false:=rfl
theorem FG:(false == false)=true:=rfl
theorem af {draw:Bool} {all:Array Oper} {K:St→Prop} {vc:Prop} (h1:vc) (h2:K s):fin P draw all K (.run vc s):=⟨h1,h2⟩
theorem an {draw:Bool} {all:Array Oper} {K:St→Prop} {vc:Prop} {r:List Oper} (h1:vc) (h2:iV P draw all r K s):fin P draw all K (.stop vc r s):=⟨h1,h2⟩
def il (w:List Int):List PV:=w.map (PV.int .i64)
theorem aH (w:List Int):(il w).length=w.length:=by simp [il]
theorem aL {w:List Int} {i:Nat} (h:i < w.length):(il w).getD i default = .int .i64 (w.getD i 0):=by
 simp [il,List.getD,List.getElem?_eq_getElem h]
theorem iw (w:List Int):(il w).all PV.one=true:=by
 simp [il,PV.one]
theorem B7 (w:List Int):(il w).all (fun x=>x.cells.length == 1)=true:=by
 simp [il,PV.cells]
theorem rQ (w:List Int) (n:Nat):(il w).take n=il (w.take n):=by simp [il]
theorem Dy (w:List Int) (n:Nat):(il w).drop n=il (w.drop n):=by simp [il]
theorem DJ (x:Int) (w:List Int):il (x :: w) = .int .i64 x :: il w:=rfl
def ol (w:List Int):List AV:=(il w).map .p
theorem c6 (w:List Int):(ol w).length=w.length:=by simp [ol,il]
theorem bP {w:List Int} {i:Nat} (h:i < w.length) (d:AV):(ol w).getD i d = .p (.int .i64 (w.getD i 0)):=by
 simp [ol,il,List.getD,List.getElem?_eq_getElem h]
theorem xQ (w:List Int) (n:Nat):(ol w).take n=ol (w.take n):=by simp [ol,il]
theorem rA (w:List Int) (n:Nat):(ol w).drop n=ol (w.drop n):=by simp [ol,il]
theorem qG (v w:List Int):ol v++ol w=ol (v++w):=by simp [ol,il]
theorem sS (v:List Int) (x:Int):ol v++[.p (.int .i64 x)]=ol (v++[x]):=by simp [ol,il]
theorem iC:ol []=[]:=rfl
theorem C2 (x:Int) (w:List Int):ol (x :: w) = .p (.int .i64 x) :: ol w:=rfl
theorem E7 (w:List Int):(ol w).all br=true:=by simp [ol,il,br,PV.one]
theorem pY (w:List Int) (π:List Nat):(ol w).map (Go.Pv.bl π)=ol w:=by simp [ol,il,Go.Pv.bl,bw]
theorem fC (w:List Int) (n:Nat):(ol w).all (bg n)=true:=by simp [ol,il,bg,bt]
theorem jZ (w:List Int):eO (ol w)=some (il w):=by
 induction w with
 | nil=>rfl
 | cons x r ih=>simp only [C2,eO,ih,Option.map_some,DJ]
theorem Ii (w:List Int):(il w).map AV.p=ol w:=rfl
theorem eB {w:List Int} {i:Nat} (x:Int):(ol w).set i (.p (.int .i64 x))=ol (w.set i x):=by
 simp [ol,il,List.map_set]
theorem cC (n:Nat):List.replicate n (AV.p (.int .i64 0))=ol (List.replicate n 0):=by simp [ol,il]
theorem gl {α:Type} (l:List α):l.take l.length=l:=List.take_length
theorem qB {α:Type} (l:List α) (n:Nat):l.take (l.take n).length=l.take n:=by
 rw [List.length_take,Nat.min_def]; split
 ·rfl
 rw [List.take_of_length_le (Nat.le_refl _),List.take_of_length_le (by omega)]
theorem yi {α:Type} (l:List α) (x:α):(l++[x]).take (l.length + 1)=l++[x]:=by
 rw [List.take_of_length_le (by simp)]
theorem y9 {α:Type} (l r:List α):(l++r).take (l.length + r.length)=l++r:=by
 rw [List.take_of_length_le (by simp)]
theorem qo {α:Type} (l:List α) (n:Nat):(l.drop n).take (l.length - n)=l.drop n:=List.take_of_length_le (by simp)
theorem zW (m n:Nat):Int.tmod (m:Int) (n:Int)=((m % n:Nat):Int):=rfl
theorem F8 (m n:Nat):Int.tdiv (m:Int) (n:Int)=((m / n:Nat):Int):=rfl
theorem rK (a:Nat):((a:Int) - 1).toNat=a - 1:=by omega
theorem Dq (a:Nat):((a:Int) + 1).toNat=a + 1:=by omega
theorem F4 (a b:Nat):((a:Int) - (b:Int)).toNat=a - b:=by omega
structure GW (C:Ctx) (m:Map) (H:ay) (w:World) (av:AV) (v:Value):Prop where
 inj:∀ (k k' : Nat) (c c' : List AV) l l',H[k]? = some (aM.own c)→H[k']? = some (aM.own c')→m k=some l→m k' = some l'→l.g=l'.g→k=k'
 blk:∀ (k:Nat) (c:List AV),H[k]? = some (aM.own c)→nf C.B (Reads (OK C m H w) w) m H w k c
 fro:∀ (k:Nat) (c:List PV),H[k]? = some (aM.fro c)→mW (OK C m H w) w m k c
 val:aJ (Reads (OK C m H w) w) m H av v
def Ff (P:Program) (f:FuncId) (args:List PV) (av:AV) (H:ay):Prop:=
 Jl P f∧∀ (okA:Nat→Prop) (w:World) (vals:Array Value),px okA w→vals.size=args.length→(∀ i (h:i < args.length),Reads okA w args[i] (vals.getD i undef)) →
  Calls P f vals w fun e w'=>∃ v m',e = .returned v∧Below w.heap.size w w'∧GW (fresh okA w) m' H w' av v
def o0 (T:TypeId→Option TI) (rs:List ResultVar) (av:AV) (H:ay) (s:St):Prop:=
 match mN T s rs with
 | some (p,l)=>p∧∃ π,js l=bl π av∧bg π.length av=true∧Le π ⟨s.n,[],H⟩ s
 | none=>False
def o9 (T:TypeId→Option TI) (rs:List ResultVar) (av:AV) (H:ay):Exit→St→Prop
 | .normal,s=>o0 T rs av H s
 | .ret,s=>o0 T rs av H s
 | _,_=>False
theorem ym {P:Program} {f:FuncId} {fn:Func} {args:List PV} {okA:Nat→Prop} {w:World} {vals:Array Value} (_hf:P.funcs[f]? = some fn) (hn:args.length≤fn.ntmps) (hok:px okA w) (hsz:vals.size=args.length) (hrd:∀ i (h:i < args.length),Reads okA w args[i] (vals.getD i undef)) :
  Rel (fresh okA w) (fun _=>none) (entry fn.ntmps args) (vals++Array.replicate (fn.ntmps - vals.size) undef) w:=by
 have hslot:∀ t,(vals++Array.replicate (fn.ntmps - vals.size) undef).getD t undef=if t < vals.size then vals.getD t undef else undef:=by
  intro t
  simp only [Array.getD_eq_getD_getElem?]
  by_cases ht:t < vals.size
  ·rw [if_pos ht,Array.getElem?_append_left ht]
  rw [if_neg ht,Array.getElem?_append_right (by omega),Array.getElem?_replicate]
  split<;>rfl
 have hOK:∀ b,okA b→OK (fresh okA w) (fun _=>none) [] w b:=fun b hb=>⟨.inl hb,hok.1 b hb,fun k c l h=>by simp at h⟩
 refine ⟨fun g l hg=>(hok.2 g l hg).mono hOK,b8.refl _ _,fun _ h=>h,by simp [entry]; omega,fun k k' c c' l l' h=>by simp [entry] at h,fun k c h=>by simp [entry] at h,fun k c h=>by simp [entry] at h,fun t=>?_,fun k kk d v h=>by simp [entry] at h,fun k k' kk d v kk' d' v' l l' h=>by simp [entry] at h,fun k i j h=>by simp [entry] at h,fun k r h=>by simp [entry] at h,fun k k' r r' l l' h=>by simp [entry] at h⟩
 rw [hslot]
 unfold St.get entry
 simp only
 rw [v8]
 simp only [Nat.zero_le,if_true,Nat.sub_zero]
 by_cases ht:t < args.length
 ·rw [List.getElem?_eq_getElem ht,if_pos (by omega)]
  exact .p _ _ ((hrd t ht).mono hOK)
 rw [List.getElem?_eq_none (by omega)]
 exact .dead _
theorem wx (hT:∀ t ti,T t=some ti→bu P t=some ti) {f:FuncId} {fn:Func} {c:Code} {args:List PV} {av:AV} {H:ay} (hf:P.funcs[f]? = some fn) (hb:fn.body=some c) (hnm:(fn.name == "runtime.NumGoroutine")=false) (hn:args.length≤fn.ntmps)
  (h:Holds P c (o9 T fn.results.toList av H) (entry fn.ntmps args)):Ff P f args av H:=by
 refine ⟨⟨fn,hf,hnm,by rw [hb]; rfl⟩,fun okA w vals hok hsz hrd=>calls_of_wp hf hb (oT.1 ?_)⟩
 have R:=ym hf hn hok hsz hrd
 refine gY (h none [] _ _ { tmps:=vals++Array.replicate (fn.ntmps - vals.size) undef,defers:=[] } w R rfl) fun e a' w' ⟨s',m',h1,h2,h3⟩=>?_
 have fini:o0 T fn.results.toList av H s'→a'.defers=[]∧∃ v,(results fn a'.tmps).run P w' = .ok v w'∧∃ v_1 m'',Ending.returned v = .returned v_1∧Below w.heap.size w w'∧GW (fresh okA w) m'' H w' av v_1:=by
  intro he
  unfold o0 at he
  split at he
  ·rename_i p l hl
   obtain ⟨hp,π,hav,eD,hle⟩:=he
   obtain ⟨vs,e1,e2,e3⟩:=lW hT h2 fn.results.toList hl hp
   have hv:=mo (w:=w') e2 e3
   have R':=h2.weaken hle
   rw [hav] at hv
   have hlen:H.length=π.length:=(hle.2.2.1.get).1.symm
   have ho:∀ b,OK (fresh okA w) m' s'.H w' b→OK (fresh okA w) (cN m' π) H w' b:=by
    refine fun b hb=>⟨hb.1,hb.2.1,fun k c l hk hl=>?_⟩
    obtain ⟨k',a,b'⟩:=(hle.2.2.1.get).2 k _ hk
    simp only [cN,a,Option.bind_some] at hl
    unfold kg at b'
    simp only at b'
    split at b'
    ·rename_i d hd
     exact hb.2.2 k' _ l (bn hd) hl
    exact b'.elim
   refine ⟨h3,_,?_,_,_,rfl,h2.below.below (fun _ h=>h),R'.inj,R'.blk,R'.fro,hv.tF (fun p v h=>h.mono ho) hlen eD⟩
   rw [kP,Array.mapM_eq_mapM_toList]
   simp only [Sem.run_bind,Sem.run_map]
   rw [e1]
   simp only [Result.andThen_ok]
   rfl
  exact he.elim
 cases e with
 | normal=>exact fini h1
 | ret=>exact fini h1
 | _=>exact h1.elim
def gT (n len:Nat):List Nat:=List.range' n len
def aM.bl (π:List Nat):aM→aM
 | .own c=>.own (c.map (Go.Pv.bl π))
 | b=>b
theorem kf {n len k:Nat} (h:k < len):(gT n len).getD k 0=n + k:=by
 simp [gT,List.getD,h]
theorem aJ.shift {rd rd' : PV→Value→Prop} {m m2:Map} {H H2:ay} {n:Nat} (h1:∀ p v,rd p v→rd' p v) (h2:n + H.length≤H2.length) (hm:∀ k,k < H.length→m2 (n + k)=m k) {x:AV} {v:Value} (h:aJ rd m H x v)
  (hx:bg H.length x=true):aJ rd' m2 H2 (Go.Pv.bl (gT n H.length) x) v:=by
 have one:∀ {x:AV} {v:Value},aJ rd m H x v→bt H.length x=true→aJ rd' m2 H2 (bw (gT n H.length) x) v:=by
  intro x v h hs
  cases h with
  | dead v=>exact .dead v
  | p pv v h=>exact .p pv v (h1 _ _ h)
  | sl k lo len v hk h =>
   simp only [bw,kf hk]
   refine .sl _ lo len v (by omega) ?_
   unfold CP at *
   rw [hm k hk]; exact h
  | ptr k i v hk h =>
   simp only [bw,kf hk]
   refine .ptr _ i v (by omega) ?_
   unfold wU at *
   rw [hm k hk]; exact h
  | agg l vs hl hr=>simp [bt] at hs
  | tup l vs hl hr=>simp [bt] at hs
  | cl f l vs hl hr=>simp [bt] at hs
  | me r=>exact .me r
  | sls k lo len sz v hk h =>
   simp only [bw,kf hk]
   refine .sls _ lo len sz v (by omega) ?_
   unfold ye at *
   rw [hm k hk]; exact h
  | mptr k v hk h =>
   simp only [bw,kf hk]
   refine .mptr _ v (by omega) ?_
   unfold ry at *
   rw [hm k hk]; exact h
  | yv k l vs v hk h hl hr=>simp [bt] at hs
 cases x with
 | agg l =>
  cases h with
  | agg _ vs hl hr =>
   refine .agg _ vs (by simpa using hl) fun c hc=>?_
   rw [List.length_map] at hc
   rw [List.getElem_map]
   exact one (hr c hc) ((List.all_eq_true.1 hx) _ (List.getElem_mem hc))
 | tup l =>
  cases h with
  | tup _ vs hl hr =>
   refine .tup _ vs (by simpa using hl) fun c hc=>?_
   rw [List.length_map] at hc
   rw [List.getElem_map]
   exact one (hr c hc) ((List.all_eq_true.1 hx) _ (List.getElem_mem hc))
 | cl f l =>
  cases h with
  | cl _ _ vs hl hr =>
   refine .cl _ _ vs (by simpa using hl) fun c hc=>?_
   rw [List.length_map] at hc
   rw [List.getElem_map]
   exact one (hr c hc) ((List.all_eq_true.1 hx) _ (List.getElem_mem hc))
 | yv k l vs =>
  simp only [bg,Bool.and_eq_true,decide_eq_true_eq] at hx
  cases h with
  | yv _ _ _ _ hk h hl hr =>
   simp only [Go.Pv.bl,kf hk]
   refine .yv _ _ vs v (by omega) ?_ (by simpa using hl) fun c hc=>?_
   ·unfold DR at *
    rw [hm k hk]; exact h
   rw [List.length_map] at hc
   rw [List.getElem_map]
   exact one (hr c hc) ((List.all_eq_true.1 hx.2) _ (List.getElem_mem hc))
 | dead=>exact .dead v
 | p pv=>exact one h hx
 | sl k lo len=>exact one h hx
 | ptr k i=>exact one h hx
 | mptr k=>exact one h hx
 | me r=>exact one h hx
 | sls k lo len sz=>exact one h hx
def Cw (av:AV) (H:ay):Bool:=
 bg H.length av && H.all fun | .own c=>c.all (bg H.length) | .mp _ _ _=>false | .dA _ _=>false | .lp _=>false | _=>true
theorem Rel.join {okA:Nat→Prop} (R:Rel C m s tmps w) {w' : World} {m' : Map} {av:AV} {H:ay} {v:Value} (hA:∀ b,okA b→OK C m s.H w b) (hbl:Below w.heap.size w w') (ho:GW (fresh okA w) m' H w' av v) (eD:Cw av H=true) :
  ∃ m2,Rel C m2 { s with H:=s.H++H.map (aM.bl (gT s.H.length H.length)) } tmps w' ∧
   aJ (Reads (OK C m2 (s.H++H.map (aM.bl (gT s.H.length H.length))) w') w') m2 (s.H++H.map (aM.bl (gT s.H.length H.length))) (Go.Pv.bl (gT s.H.length H.length) av) v:=by
 obtain ⟨hsa,hsb⟩:=Bool.and_eq_true _ _ ▸ eD
 let H2:=s.H++H.map (aM.bl (gT s.H.length H.length))
 let m2:Map:=fun k=>if k < s.H.length then m k else m' (k - s.H.length)
 have hmo:∀ k,k < s.H.length→m2 k=m k:=fun k h=>by simp [m2,h]
 have hmn:∀ k,m2 (s.H.length + k)=m' k:=fun k=>by
  show (if _ then _ else _)=_
  rw [if_neg (by omega),Nat.add_sub_cancel_left]
 have hlt:∀ (k:Nat) (c' : List AV) l,s.H[k]? = some (aM.own c')→m k=some l→l.g < w.heap.size:=by
  intro k c' l h hl
  rcases R.blk k c' h with ⟨_,hn⟩ | ⟨l',cur',e',hl',hB,hg',_⟩
  ·rw [hl] at hn; cases hn
  rw [hl] at hl'; cases hl'
  exact (Array.getElem?_eq_some_iff.1 hg').1
 have hge:∀ (k:Nat) (c' : List AV) l,H[k]? = some (aM.own c')→m' k=some l→w.heap.size≤l.g:=by
  intro k c' l h hl
  rcases ho.blk k c' h with ⟨_,hn⟩ | ⟨l',cur',e',hl',hB,hg',_⟩
  ·rw [hl] at hn; cases hn
  rw [hl] at hl'; cases hl'
  exact hB
 have aq:∀ (k:Nat) (b:aM),H2[k]? = some b→(k < s.H.length∧s.H[k]? = some b)∨∃ j b',k=s.H.length + j∧H[j]? = some b'∧b=b'.bl (gT s.H.length H.length):=by
  intro k b h
  by_cases hk:k < s.H.length
  ·exact .inl ⟨hk,by rwa [List.getElem?_append_left hk] at h⟩
  rw [List.getElem?_append_right (by omega),List.getElem?_map] at h
  cases e:H[k - s.H.length]? with
  | none=>rw [e] at h; cases h
  | some b'=>rw [e] at h; exact .inr ⟨k - s.H.length,b',by omega,e,(Option.some.inj h).symm⟩
 have hown:∀ (k:Nat) (c:List AV),H2[k]? = some (.own c)→(k < s.H.length∧s.H[k]? = some (.own c))∨∃ j c',k=s.H.length + j∧H[j]? = some (.own c')∧c=c'.map (Go.Pv.bl (gT s.H.length H.length)):=by
  intro k c h
  rcases aq k _ h with h | ⟨j,b',rfl,h,e⟩
  ·exact .inl h
  cases b' with
  | own c'=>simp only [aM.bl,aM.own.injEq] at e; exact .inr ⟨j,c',rfl,h,e⟩
  | _=>cases e
 have hok:∀ b,OK C m s.H w b→∀ k c l,H2[k]? = some (.own c)→m2 k=some l→l.g ≠ b:=by
  intro b hb k c l h hl
  rcases hown k c h with ⟨hk,h⟩ | ⟨j,c',rfl,h,_⟩
  ·rw [hmo k hk] at hl; exact hb.2.2 k c l h hl
  rw [hmn] at hl
  have:=hge j c' l h hl
  have:=hb.2.1
  omega
 have hOK:∀ b,OK (fresh okA w) m' H w' b→OK C m2 H2 w' b:=by
  intro b hb
  refine ⟨?_,hb.2.1,fun k c l h hl=>?_⟩
  ·rcases hb.1 with h | h
   ·exact (hA b h).1
   exact .inr (R.base _ h)
  rcases hown k c h with ⟨hk,h⟩ | ⟨j,c',rfl,h,_⟩
  ·rw [hmo k hk] at hl
   rcases hb.1 with h' | h'
   ·exact (hA b h').2.2 k c l h hl
   have:=hlt k c l h hl
   have h' : w.heap.size≤b:=h'
   omega
  rw [hmn] at hl; exact hb.2.2 j c' l h hl
 have hh:∀ b,b < w.heap.size→w'.heap[b]? = w.heap[b]?:=fun b h=>hbl.block b h
 have ho1:∀ b,OK C m s.H w b→OK C m2 H2 w' b:=fun b h=>⟨h.1,Nat.lt_of_lt_of_le h.2.1 hbl.size,hok b h⟩
 have hlen2:s.H.length + H.length≤H2.length:=by simp [H2]
 have hmpH:∀ (k:Nat) (b:aM),b.EZ=true→H2[k]? = some b→s.H[k]? = some b:=by
  intro k b hs h
  rcases aq k _ h with h | ⟨j,b',rfl,h2,e⟩
  ·exact h.2
  subst e
  cases b' with
  | mp _ _ _ =>
   have:=(List.all_eq_true.1 hsb) _ (List.mem_of_getElem? h2)
   simp at this
  | dA _ _ =>
   have:=(List.all_eq_true.1 hsb) _ (List.mem_of_getElem? h2)
   simp at this
  | lp _ =>
   have:=(List.all_eq_true.1 hsb) _ (List.mem_of_getElem? h2)
   simp at this
  | _=>cases hs
 refine ⟨m2,R.heap (hbl.HJ R.base) (by simp) hmo hok (fun b h=>hh b h.2.1) ?_ ?_ ?_ hmpH,?_⟩
 ·intro k k' c c' l l' h1 h2 h3 h4 h5
  rcases hown k c h1 with ⟨hk,h1⟩ | ⟨j,d,rfl,h1,_⟩<;>rcases hown k' c' h2 with ⟨hk',h2⟩ | ⟨j',d',rfl,h2,_⟩
  ·rw [hmo k hk] at h3; rw [hmo k' hk'] at h4
   exact R.inj k k' c c' l l' h1 h2 h3 h4 h5
  ·rw [hmo k hk] at h3; rw [hmn] at h4
   have:=hlt k c l h1 h3
   have:=hge j' d' l' h2 h4
   omega
  ·rw [hmn] at h3; rw [hmo k' hk'] at h4
   have:=hlt k' c' l' h2 h4
   have:=hge j d l h1 h3
   omega
  rw [hmn] at h3 h4
  rw [ho.inj j j' d d' l l' h1 h2 h3 h4 h5]
 ·intro k c h
  rcases hown k c h with ⟨hk,h⟩ | ⟨j,c',rfl,hj,rfl⟩
  ·refine (R.blk k c h).ext (fun p v h=>h.ext ho1 fun b hb=>hh b hb.2.1) (by simp) hmo (hmo k hk) fun l hl=>?_
   exact hh _ (hlt k c l h hl)
  rcases ho.blk j c' hj with ⟨e,hn⟩ | ⟨l,cur,e,h1,h2,h3,h4,h5,h6,h7⟩
  ·exact .inl ⟨by rw [e]; rfl,by rw [hmn]; exact hn⟩
  refine .inr ⟨l,cur,e,by rw [hmn]; exact h1,R.base _ h2,h3,h4,h5,by simpa using h6,fun i hi=>?_⟩
  rw [List.length_map] at hi
  rw [List.getElem_map]
  have hs:bg H.length c'[i]=true:=by
   have:=(List.all_eq_true.1 hsb) _ (List.mem_of_getElem? hj)
   exact (List.all_eq_true.1 this) _ (List.getElem_mem hi)
  exact (h7 i hi).shift (fun p v h=>h.mono hOK) hlen2 (fun k _=>hmn k) hs
 ·intro k c h
  rcases aq k _ h with ⟨hk,h⟩ | ⟨j,b',rfl,h,e⟩
  ·exact (R.fro k c h).ext ho1 (fun b hb=>hh b hb.2.1) (hmo k hk)
  cases b' with
  | fro c' =>
   simp only [aM.bl,aM.fro.injEq] at e
   subst e
   rcases ho.fro j c h with ⟨e1,e2⟩ | ⟨l,vs,e1,e2,e3,e4⟩
   ·exact .inl ⟨e1,by rw [hmn]; exact e2⟩
   exact .inr ⟨l,vs,by rw [hmn]; exact e1,hOK _ e2,e3,fun i hi=>⟨(e4 i hi).1,(e4 i hi).2.mono hOK⟩⟩
  | _=>cases e
 exact ho.val.shift (fun p v h=>h.mono hOK) hlen2 (fun k _=>hmn k) hsa
theorem vr {o:Oper} {fo:Operand} {args:Array Operand} {ts:Array TypeId} (ho:o.op = .call { callee:=.value fo,args:=args,argTypes:=ts }) {g:FuncId} {avs:List PV} {p:Prop} {av:AV} {H:ay}
  (hc:Ff P g avs av H) (hcall:gq s fo args=some (g,avs,p,true)) (hp:p) (eD:Cw av H=true):fj P o s (Go.Pv.bl (gT s.H.length H.length) av) (s.H++H.map (aM.bl (gT s.H.length H.length))):=by
 intro C m a w K Q R hK
 unfold gq at hcall
 split at hcall
 ·rename_i g' cap hf
  split at hcall<;>simp only [Option.some.injEq,Prod.mk.injEq,reduceCtorEq] at hcall
  rename_i p' pvs b' hpl
  obtain ⟨rfl,rfl,rfl,rfl⟩:=hcall
  have hfv:=R.ev fo
  rw [hf] at hfv
  generalize hfe:a.eval fo=fv at hfv
  have hfv:=hfv.aQ
  cases hfv with
  | fn _ _ vs hcl hcr =>
   obtain ⟨⟨fn,hfn,hnm,hbd⟩,hcalls⟩:=hc
   obtain ⟨e1,e2,e3⟩:=dB (C:=C) (m:=m) (w:=w) (H:=s.H) (fun {x v p pv b} (hx:aJ (Reads (OK C m s.H w) w) m s.H x v) h hp=>fT R hx h hp) (args.toList.map s.ev) (fun c=>(args.toList.map a.eval).getD c undef) (fun c hc=>by
    simp only [List.length_map] at hc
    have:=R.ev (args.toList[c])
    simpa [List.getD,List.getElem?_map,List.getElem?_eq_getElem hc] using this) hpl hp
   simp only [List.length_map] at e1
   have hvals:∀ i (h:i < (pvs++cap).length),(args.map a.eval++vs).getD i undef=if i < pvs.length then (args.toList.map a.eval).getD i undef else vs.getD (i - pvs.length) undef:=by
    intro i hi
    simp only [Array.getD_eq_getD_getElem?]
    by_cases hip:i < pvs.length
    ·rw [if_pos hip,Array.getElem?_append_left (by simp at e1 ⊢; omega)]
     simp [List.getD]
    rw [if_neg hip,Array.getElem?_append_right (by simp at e1 ⊢; omega)]
    congr 2
    simp at e1 ⊢; omega
   have hrun:(execOp a.eval o).run P w = .ok (.enter g' (args.map a.eval++vs)) w:=by
    have hnm' : ¬ fn.name = "runtime.NumGoroutine":=by simpa using hnm
    have hbd' : ¬ fn.body=none:=by intro e; rw [e] at hbd; simp at hbd
    simp [execOp,ho,resolve,hfe,Deferred.ofValue,invoke,callFunc,hfn,hnm',hbd']
   refine eK (by first|rfl|(rw [ho]; rfl)) ?_
   unfold Oper.wp
   rw [hrun]
   simp only [Oper.upon]
   have hsz:(args.map a.eval++vs).size=(pvs++cap).length:=by simp at e1 ⊢; omega
   refine (hcalls (OK C m s.H w) w _ R.Bw hsz (fun i hi=>?_)).mono fun e w' ⟨v,m',he,hbl,hv⟩=>?_
   ·rw [hvals i hi]
    by_cases hip:i < pvs.length
    ·rw [if_pos hip,List.getElem_append_left hip]; exact e3 rfl i hip
    rw [if_neg hip,List.getElem_append_right (by omega)]; exact hcr _ (by simp at hi; omega)
   subst he
   obtain ⟨m2,R2,hv2⟩:=R.join (fun b h=>h) hbl hv eD
   exact hK v m2 w' R2 hv2
 cases hcall
theorem iD {all:Array Oper} {rest:List Oper} {K:St→Prop} {dst:Option Tmp} {ty:TypeId} {pos:String} {aft:Array Edge} {gd:Option (Nat × Bool)} {fo:Operand} {args:Array Operand} {ts:Array TypeId} {g:FuncId} {avs:List PV} {p:Prop} {av:AV} {H:ay}
  (hc:Ff P g avs av H) (hg:bz all s { dst:=dst,op:=.call { callee:=.value fo,args:=args,argTypes:=ts },type:=ty,pos:=pos,after:=aft,guard:=gd } = some true)
  (hcall:gq s fo args=some (g,avs,p,true)) (eD:Cw av H=true) (hd:au s dst) (hp:p) (h:iV P false all rest K (({ s with H:=s.H++H.map (aM.bl (gT s.H.length H.length)) } : St).put dst (Go.Pv.bl (gT s.H.length H.length) av))) :
  iV P false all ({ dst:=dst,op:=.call { callee:=.value fo,args:=args,argTypes:=ts },type:=ty,pos:=pos,after:=aft,guard:=gd } :: rest) K s:=by
 obtain ⟨s',hr,hK⟩:=h
 exact ⟨s',.cons (.op s _ _ hg (cT hd) (vr rfl hc hcall hp eD) fun h=>by cases h) hr,hK⟩
end
open Go.RowKit
section
variable {P:Program} {T:TypeId→Option TI} {s:St}
theorem eT {all:Array Oper} {rest:List Oper} {K:St→Prop} {o:Oper} {av:AV} {H' : ay} (h1:fj P o s av H') (hg:bz all s o=some true) (hd:au s o.dst)
  (h:iV P false all rest K (({ s with H:=H' } : St).put o.dst av)):iV P false all (o :: rest) K s:=by
 obtain ⟨s',hr,hK⟩:=h
 exact ⟨s',.cons (.op s _ _ hg (cT hd) h1 fun h=>by cases h) hr,hK⟩
theorem bN {c:Code} {Q:Exit→St→Prop} (t:Nat) (hs:s.get t = .p .nil) (h:Holds P c Q { s with sl:=(t,.sl s.H.length 0 0) :: s.sl,H:=s.H++[.own []] }):Holds P c Q s:=by
 intro r ds C m a w R hd
 have hv:=R.slot t
 rw [hs] at hv
 have hv:=hv.aQ.eZ
 have R':=R.rv
 refine h r ds C _ a w ⟨R'.laid,R'.below,R'.base,R'.size,R'.inj,R'.blk,R'.fro,fun t'=>?_,R'.mp⟩ hd
 by_cases e:t=t'
 ·subst e
  have e2:({ s with sl:=(t,.sl s.H.length 0 0) :: s.sl,H:=s.H++[.own []] } : St).get t = .sl s.H.length 0 0:=by simp [St.get,lk]
  rw [e2,hv]
  exact .sl _ _ _ _ (by simp) <| .inl ⟨rfl,none,rfl⟩
 have e2:({ s with sl:=(t,.sl s.H.length 0 0) :: s.sl,H:=s.H++[.own []] } : St).get t' = s.get t':=by simp [St.get,lk,show (t == t')=false by simpa using e]
 rw [e2]
 exact R'.slot t'
inductive Sub:PV→PV→Prop
 | same (a:PV):Sub a a
 | nn (l:List PV):Sub (.nn l) (.list l)
 | nil:Sub .nil (.list [])
 | nz:Sub .nz (.list [])
theorem Sub.reads {a b:PV} (h:Sub a b) {ok:Nat→Prop} {w:World} {v:Value} (hv:Reads ok w a v):Reads ok w b v:=by
 cases h with
 | same=>exact hv
 | nn l=>exact hv.sg
 | nil=>exact hv.tU
 | nz =>
  cases hv with
  | nz a cap=>exact .list0 _ _ fun h=>by cases h
def uG:List PV→List PV→Prop
 | [],[]=>True
 | a :: r,b :: s=>Sub a b∧uG r s
 | _,_=>False
theorem uG.len:∀ {l r:List PV},uG l r→l.length=r.length
 | [],[],_=>rfl
 | a :: l,b :: r,h=>by simp [uG.len h.2]
 | [],_ :: _,h=>h.elim
 | _ :: _,[],h=>h.elim
theorem uG.get:∀ {l r:List PV},uG l r→∀ (i:Nat) (h:i < l.length) (h' : i < r.length),Sub l[i] r[i]
 | a :: l,b :: r,h,0,_,_=>h.1
 | a :: l,b :: r,h,i + 1,h1,h2=>by simpa using uG.get h.2 i (by simpa using h1) (by simpa using h2)
 | [],[],_,i,h,_=>by simp at h
 | [],_ :: _,h,_,_,_=>h.elim
 | _ :: _,[],h,_,_,_=>h.elim
theorem bR.sub {f:FuncId} {args args' : List PV} {r:PV} (h:bR P f args r) (hs:uG args' args):bR P f args' r:=by
 refine ⟨h.1,fun okA w vals h1 h2 h3=>h.2 okA w vals h1 (h2.trans hs.len) fun i hi=>?_⟩
 have:=hs.len
 exact (hs.get i (by omega) hi).reads (h3 i (by omega))
theorem iA {c:Code} {Q:Exit→St→Prop} (t k:Nat) {w:List Int} (h1:s.get t = .sl k 0 w.length) (h2:aq s.H k = .own (ol w)) (h:Holds P c Q { s with sl:=(t,.p (.list (il w))) :: s.sl,H:=aE s.H k (.fro (il w)) }):Holds P c Q s:=by
 refine bO k h2 (jZ w) (oG (s:={ s with H:=aE s.H k (.fro (il w)) }) t (p:=0 + w.length≤(il w).length∧(((il w).drop 0).take w.length).all PV.one=true) (pv:=.list (((il w).drop 0).take w.length)) ?_ ?_ ?_)
 ·have e:({ s with H:=aE s.H k (.fro (il w)) } : St).get t = .sl k 0 w.length:=h1
  rw [e]
  have hk:=bn h2
  have hkl:k < s.H.length:=(List.getElem?_eq_some_iff.1 hk).1
  have e2:aq (aE s.H k (.fro (il w))) k = .fro (il w):=by
   have key:∀ (H:ay) (k:Nat) (b:aM),k < H.length→aq (aE H k b) k=b:=by
    intro H
    induction H with
    | nil=>intro k b h; simp at h
    | cons x r ih =>
     intro k b h
     cases k with
     | zero=>rfl
     | succ k=>exact ih k b (by simpa using h)
   exact key _ _ _ hkl
  simp only [dO,dI,e2]
 ·simp only [aH,List.drop_zero,rQ,gl,iw]
  exact ⟨by omega,trivial⟩
 simp only [List.drop_zero,rQ,gl]
 exact h
def ll (ls:List (List Int)):List PV:=ls.map fun w=>.list (il w)
theorem aw (ls:List (List Int)):(ll ls).length=ls.length:=by simp [ll]
theorem cQ {ls:List (List Int)} {i:Nat} (h:i < ls.length):(ll ls).getD i default = .list (il (ls.getD i [])):=by
 simp [ll,List.getD,List.getElem?_eq_getElem h]
theorem iz (ls:List (List Int)):(ll ls).all PV.one=true:=by simp [ll,PV.one]
theorem tu (ls:List (List Int)):(ll ls).all (fun x=>x.cells.length == 1)=true:=by simp [ll,PV.cells]
end
def J8:=And.intro @GL
 <| And.intro @C8
 <| And.intro @Gs
 <| And.intro @En
 <| And.intro @IJ
 <| And.intro @F3
 <| And.intro @FZ
 <| And.intro @GX
 <| And.intro @HA
 <| And.intro @Nat.sub_zero
 <| And.intro @Int.toNat_natCast
 <| And.intro @Int.toNat_zero
 <| And.intro @List.replicate_zero.{0}
 <| And.intro @aH
 <| And.intro @aw
 <| And.intro @iz
 <| And.intro @tu
 <| And.intro @iw
 <| And.intro @B7
 <| And.intro @Ii
 <| And.intro @c6
 <| And.intro @E7
 <| And.intro @pY
 <| And.intro @fC
 <| And.intro @jZ
 <| And.intro @xQ
 <| And.intro @rA
 <| And.intro @qG
 <| And.intro @sS
 <| And.intro @gl
 <| And.intro @rQ
 <| And.intro @Dy
 <| And.intro @qo
 <| And.intro @zW
 <| And.intro @F8
 <| And.intro @rK
 <| And.intro @Dq
 <| And.intro @F4
 <| And.intro @List.headD_cons.{0}
 <| And.intro @List.map_cons.{0,0}
 <| And.intro @List.map_nil.{0,0}
 <| And.intro @List.nil_append.{0}
 <| And.intro @List.append_nil.{0}
 <| And.intro @List.cons_append.{0}
 <| And.intro @List.length_cons.{0}
 <| And.intro @List.length_nil.{0}
 <| And.intro @List.getElem?_cons_zero.{0}
 <| And.intro @List.getElem?_cons_succ.{0}
 <| And.intro @Option.map_some.{0,0}
 <| And.intro @Option.map_none.{0,0}
 <| And.intro @Option.bind_some.{0,0}
 <| And.intro @cond_true.{1}
 <| And.intro @cond_false.{1}
 <| And.intro @Nat.zero_add
 <| And.intro @Nat.add_zero
 <| And.intro @true_and
 <| And.intro @and_true
 <| And.intro @Int.zero_sub
 <| And.intro @Int.neg_zero
 <| And.intro @Int.sub_zero
 <| And.intro @and_self
 <| And.intro @List.getElem?_toArray.{0}
 <| And.intro @List.getD_cons_zero.{0}
 <| And.intro @List.getD_cons_succ.{0}
 <| And.intro @List.all_cons.{0}
 <| And.intro @List.all_nil.{0}
 <| And.intro @Bool.and_true
 <| And.intro @Bool.true_and
 <| And.intro @Bool.and_self
 <| And.intro @List.take_zero.{0}
 <| And.intro @List.drop_zero.{0}
 <| And.intro @Ga
 <| And.intro @Gk
 <| And.intro @FI
 <| And.intro @FG
 <| And.intro @Bool.not_true
 <| And.intro @Bool.not_false
 <| And.intro @Bool.false_eq_true
 <| And.intro @Bool.true_eq_false
 <| And.intro @Option.some.injEq.{0}
 <| And.intro @eq_self.{1}
 <| And.intro @ne_eq.{1}
 <| And.intro @not_false_eq_true
 <| And.intro @Nat.one_ne_zero
 <| And.intro @List.take_succ_cons.{0}
 <| And.intro @List.take_nil.{0}
 <| And.intro @List.drop_succ_cons.{0}
 <| And.intro @List.drop_nil.{0}
 <| And.intro @List.set_cons_zero.{0}
 <| And.intro @List.set_cons_succ.{0}
 <| @List.set_nil.{0}
open Go.RowKit Go.ChangeShapes Go.WideShapes
section
variable {H:Type} {enc:TypeId × Value→H} {P:Program}
theorem qZ (hl:laidOutB P=true) {W W' : World} {sp:Nat→Bool} (hb:Below W.heap.size W W'):∀ {ts:List TypeId} {vs:List Value} {ds:List (DataW H)} {ps:List MemPlace},(ts.all fun t=>P.readableRec t && decide (t < P.types.size))=true →
  DataW.TrodAll enc P W 0 (fun _=>true) true ts vs ds ps→(∀ x∈ps,x.block < W.heap.size)→(∀ x∈ps,sp x.block=true)→DataW.TrodAll enc P W' 0 sp true ts vs ds ps
 | [],vs,ds,ps,_,h,_,_=>by
  obtain ⟨rfl,rfl,rfl⟩:=trodAll_nil h
  exact trodAll_mk0
 | t :: ts,vs,ds,ps,ht,h,hlt,hs=>by
  obtain ⟨v,vs',d,ds',p,q,rfl,rfl,rfl,h0,h1⟩:=trodAll_cons h
  simp only [List.all_cons,Bool.and_eq_true,decide_eq_true_eq] at ht
  refine trodAll_cons_mk (WideElems.Trod_stays hl ht.1.1 ht.1.2 h0 (fun x hx=>hb.same (hlt x (by simp [hx]))) fun x hx=>hs x (by simp [hx])) (qZ hl hb ht.2 h1 (fun x hx=>hlt x (by simp [hx])) fun x hx=>hs x (by simp [hx]))
theorem A1 (hl:laidOutB P=true) {f:Func} {s:ChangeSpec} {W W' : World} {args:Array Value} {ds gs:List (DataW H)} {before:List MemPlace} {tb:TypeId} (hvars:s.vars=[]) (hr:f.resultTypes = #[tb]) (hb:P.underlying tb=some .bool)
  (hts:(f.params.toList.all fun t=>P.readableRec t && decide (t < P.types.size))=true) (hW:DataW.Whole enc P f.params.toList s.vars false W args.toList ds gs before)
  (hfn:ds.length=f.params.toList.length→s.fn H (ds++[]) = { results:=[.lit (.bool true)],args:=ds }) (hbl:Below W.heap.size W W'):s.post enc P f false true false false W args (.bool true) W':=by
 have hW':=hW
 obtain ⟨p,q,hA,hV,rfl,hfz,hnd⟩:=hW
 rw [hvars] at hV
 obtain ⟨rfl,rfl⟩:=trodVars_none hV
 have hlen:ds.length=f.params.toList.length:=(trodAll_length hA).2
 have hf:=hfn hlen
 have hlt:∀ x∈p,x.block < W.heap.size:=fun x hx=>by simpa using hW'.lt x (by simp [hx])
 have hold:∀ x∈p++[],(fun b=>decide (b < W.heap.size)) x.block=true:=fun x hx=>by simpa using hW'.lt x hx
 have hres:∀ (b:Nat) (sp:Nat→Bool) (hd:Bool),DataW.TrodAll enc P W' b sp hd f.resultTypes.toList ((Value.bool true).resultList f.resultTypes.size) (s.fn H (ds++[])).results []:=by
  intro b sp hd
  rw [hf,hr]
  exact trodAll_mk1 (shut_bool hb _)
 have hargs:∀ sp:Nat→Bool,(∀ x∈p++[],sp x.block=true)→DataW.TrodAll enc P W' 0 sp true f.params.toList args.toList (s.fn H (ds++[])).args p:=by
  intro sp hsp
  rw [hf]
  exact qZ hl hbl hts hA hlt fun x hx=>hsp x (by simp [hx])
 have hvs:∀ sp:Nat→Bool,DataW.TrodVars enc P W' sp s.vars (s.fn H (ds++[])).vars []:=by
  intro sp
  rw [hvars,hf]; rfl
 refine ⟨ds,[],p++[],[],p,[],hW',hres _ _ _,hargs _ hold,hvs _,World.keptBut_mono (fun x hx=>⟨hx,?_⟩) (hbl.frame (·∈p++[])),fun _=>?_⟩
 ·exact Or.inr (by simpa using hx)
 refine ⟨ok_one hr rfl (okWide_bool_mk hb _),_,_,([]++p)++[],⟨[]++p,[],trodAll_append (hargs _ (fun _ _=>rfl)) (hres _ _ _),hvs _,rfl,?_,?_⟩,?_⟩
 ·intro b off hp
  rw [hbl.frozen (p:=⟨b,off,none⟩) (hlt (.cell b off) (by simpa using hp))]
  exact hfz b off (by simpa using hp)
 ·intro ha
  have:=hnd ha
  simpa using this
 intro x hx _
 simpa using hx
end
open Go.RowKit Go.ChangeShapes Go.WideShapes
def gp (n:Int) (m:List Int):PV:=.agg [.int .i64 n,.list (il m)]
section
variable {H:Type} {enc:TypeId × Value→H} {P:Program}
theorem vX {t e:TypeId} {W:World} {fuel:Nat} {cs:List Value} {x:DataW H × List MemPlace} (ht:P.underlying t=some (.slice e)) (he:P.underlying e=some (.int .i64)) (hc:P.cellsOf e=1)
  (hby:P.bytesOf e=8) (hf:DataW.trod enc P W 0 (fun _=>true) true fuel t cs=some x) (hw:(x.1.weights P t).all (·≤reachBytes)=true) :
  ∃ (xs:List Int) (v:Value),cs=[v]∧(∀ x∈xs,ah x)∧xs.length≤17592186043904∧Reads (fun b=>b < W.heap.size) W (.list (il xs)) v:=by
 rcases open_ints ht he hc hf with ⟨rfl,rfl⟩ | ⟨a,len0,cap0,zs,rfl,_,hle,hmax,hall,rfl,hcell,hwf⟩
 ·exact ⟨[],_,rfl,fun x hx=>by simp at hx,Nat.zero_le _,.list0 none 0 fun _=>rfl⟩
 simp only [DataW.weights,ht,hby,List.all_cons,Bool.and_eq_true,decide_eq_true_eq] at hw
 have hbig:(zs.take len0).length * 8≤reachBytes:=by
  have e1:∀ l:List Int,(lits (H:=H) .i64 l).length=l.length:=fun l=>by simp [lits]
  have:=hw.1
  rw [e1,e1] at this
  omega
 unfold reachBytes at hbig
 simp only [if_true] at hall
 have hlen:(zs.take len0).length=len0:=by simp; omega
 refine ⟨zs.take len0,_,rfl,fun x hx=>?_,by omega,?_⟩
 ·have:=hwf x (List.mem_of_mem_take hx)
  simp [Lit.wf,IntKind.min,IntKind.max,IntKind.signed,IntKind.bits] at this
  exact ⟨by omega,by omega⟩
 by_cases h0:len0=0
 ·subst h0
  exact .list0 _ _ fun h=>by cases h
 obtain ⟨b,off,rfl,hcell'⟩:=ints_at (w:=W) hcell (by omega)
 have hone:∀ x∈il (zs.take len0),x.cells.length=1:=by
  intro x hx
  obtain ⟨y,_,rfl⟩:=List.mem_map.1 hx
  rfl
 have hfl:flat (il (zs.take len0))=il (zs.take len0):=iL (iw _)
 have:=Reads.list (ok:=fun b=>b < W.heap.size) (w:=W) (il (zs.take len0)) b off cap0 1 (fun j=>.int .i64 (zs.getD j 0)) ?_ hone (by rw [aH,hlen]; exact hle) (fun c hcl=>?_) (fun c hcl=>?_)
 ·rwa [aH,hlen] at this
 ·have:=hcell' 0 (by omega)
  simp only [World.cell?] at this
  by_cases hb:b < W.heap.size
  ·exact hb
  rw [Array.getElem?_eq_none (by omega)] at this
  simp at this
 ·rw [hfl,aH,hlen] at hcl
  exact hcell' c (by omega)
 simp only [hfl]
 have hcl2:c < len0:=by rw [hfl,aH,hlen] at hcl; exact hcl
 have e:(il (zs.take len0))[c]'(by rw [aH,hlen]; exact hcl2) = .int .i64 (zs.getD c 0):=by
  simp [il,List.getD,List.getElem?_eq_getElem (show c < zs.length by omega)]
 rw [e]
 exact .int _ _
theorem D7 {t tl ti:TypeId} {W:World} {base:Nat} {v:Value} {d:DataW H} {p:List MemPlace} {f0 f1:Field} (ht:P.underlying t=some (.struct #[f0,f1])) (hf0:f0.type=ti) (hf1:f1.type=tl) (ho0:f0.offset=0) (ho1:f1.offset=1)
  (hct:P.cellsOf t=2) (hcl:P.cellsOf tl=1) (htl:P.underlying tl=some (.slice ti)) (hti:P.underlying ti=some (.int .i64)) (hc:P.cellsOf ti=1)
  (hby:P.bytesOf ti=8) (hval:Value.okWide P W .any base t v) (h:DataW.Trod enc P W 0 (fun _=>true) true t v d p) (hw:(d.weights P t).all (·≤reachBytes)=true) :
  ∃ (n:Int) (xs:List Int),ah n∧(∀ x∈xs,ah x)∧xs.length≤17592186043904∧Reads (fun b=>b < W.heap.size) W (gp n xs) v:=by
 obtain ⟨cs,rfl,hsz⟩:=okWide_struct ht hval
 obtain ⟨fuel,hf⟩:=h
 obtain ⟨y0,y1,m,hx,hl,h0,h1⟩:=trod_struct2 ht hf
 simp only [Prod.mk.injEq] at hx
 obtain ⟨rfl,rfl⟩:=hx
 subst hf0 hf1
 simp only [DataW.weights,ht,List.map_cons,List.map_nil,DataW.weightsEach,List.append_nil,List.all_append,Bool.and_eq_true] at hw
 rw [ho0,hc,List.drop_zero] at h0
 rw [ho1,hcl] at h1
 obtain ⟨n,hcs0,_,hwf⟩:=DataW.trod_int hti h0
 obtain ⟨xs,v1,hcs1,g1,g2,g3⟩:=vX htl hti hc hby h1 hw.2
 rw [hct] at hsz hl
 simp only [Value.cells] at hcs0 hcs1 hl
 simp [Lit.wf,IntKind.min,IntKind.max,IntKind.signed,IntKind.bits] at hwf
 have c0:cs.toList[0]? = some (.int .i64 n):=by
  have:=congrArg (fun l=>l[0]?) hcs0
  simpa using this
 have c1:cs.toList[1]? = some v1:=by
  have:=congrArg (fun l=>l[0]?) hcs1
  simpa using this
 have hc0:cs.getD 0 undef = .int .i64 n:=by
  rw [Array.getElem?_toList] at c0
  rw [Array.getD_eq_getD_getElem?,c0]; rfl
 have hc1:cs.getD 1 undef=v1:=by
  rw [Array.getElem?_toList] at c1
  rw [Array.getD_eq_getD_getElem?,c1]; rfl
 refine ⟨n,xs,⟨by omega,by omega⟩,g1,g2,.agg _ _ (by rw [hsz]; rfl) fun c hc=>?_⟩
 match c,hc with
 | 0,_=>rw [hc0]; exact .int _ _
 | 1,_=>rw [hc1]; exact g3
 | c + 2,hc=>exact absurd hc (by simp)
end
theorem Kn (a b:Int):(a == b)=decide (a=b):=rfl
theorem Km (a b:Int):(a != b) = !decide (a=b):=rfl
theorem oS (a:Int):decide (a=a)=true:=by simp
theorem Bi:(!true)=false:=rfl
theorem FE:(!false)=true:=rfl
theorem F0 (b:Bool):(true && b)=b:=rfl
theorem FO (b:Bool):(false && b)=false:=rfl
theorem Jo:(#[]:Array Operand).isEmpty=true:=rfl
def Kp:=And.intro @tV.eq_1
 <| And.intro @tV.eq_2
 <| And.intro @tV.eq_3
 <| And.intro @BD.eq_1
 <| And.intro @bz.eq_1
 <| And.intro @bZ.eq_1
 <| And.intro @bZ.eq_2
 <| And.intro @bZ.eq_3
 <| And.intro @bZ.eq_4
 <| And.intro @bZ.eq_5
 <| And.intro @bZ.eq_6
 <| And.intro @bZ.eq_7
 <| And.intro @bZ.eq_8
 <| And.intro @bZ.eq_9
 <| And.intro @bZ.eq_10
 <| And.intro @bZ.eq_11
 <| And.intro @bZ.eq_12
 <| And.intro @bZ.eq_13
 <| And.intro @bZ.eq_14
 <| And.intro @bZ.eq_15
 <| And.intro @bZ.eq_16
 <| And.intro @bZ.eq_17
 <| And.intro @bZ.eq_18
 <| And.intro @bZ.eq_19
 <| And.intro @bZ.eq_20
 <| And.intro @bZ.eq_21
 <| And.intro @bZ.eq_22
 <| And.intro @bZ.eq_23
 <| And.intro @bZ.eq_24
 <| And.intro @bZ.eq_25
 <| And.intro @bZ.eq_26
 <| And.intro @kx.eq_1
 <| And.intro @uu.eq_1
 <| And.intro @uu.eq_2
 <| And.intro @lg.eq_1
 <| And.intro @yr.eq_1
 <| And.intro @yr.eq_2
 <| And.intro @iK.eq_1
 <| And.intro @fD.eq_1
 <| And.intro @dZ.eq_1
 <| And.intro @dZ.eq_2
 <| And.intro @dZ.eq_3
 <| And.intro @dZ.eq_4
 <| And.intro @dZ.eq_5
 <| And.intro @dZ.eq_6
 <| And.intro @dZ.eq_7
 <| And.intro @dZ.eq_8
 <| And.intro @dZ.eq_9
 <| And.intro @dZ.eq_10
 <| And.intro @dZ.eq_11
 <| And.intro @dZ.eq_12
 <| And.intro @dZ.eq_13
 <| And.intro @dZ.eq_14
 <| And.intro @dZ.eq_15
 <| And.intro @dZ.eq_16
 <| And.intro @dZ.eq_17
 <| And.intro @dZ.eq_18
 <| And.intro @dZ.eq_19
 <| And.intro @dZ.eq_20
 <| And.intro @dZ.eq_21
 <| And.intro @dZ.eq_22
 <| And.intro @dZ.eq_23
 <| And.intro @dZ.eq_24
 <| And.intro @dZ.eq_25
 <| And.intro @bD.eq_1
 <| And.intro @bD.eq_2
 <| And.intro @bD.eq_3
 <| And.intro @bD.eq_4
 <| And.intro @bD.eq_5
 <| And.intro @bD.eq_6
 <| And.intro @bD.eq_7
 <| And.intro @bD.eq_8
 <| And.intro @bD.eq_9
 <| And.intro @bD.eq_10
 <| And.intro @bD.eq_11
 <| And.intro @bD.eq_12
 <| And.intro @bD.eq_13
 <| And.intro @bD.eq_14
 <| And.intro @bD.eq_15
 <| And.intro @bD.eq_16
 <| And.intro @bD.eq_17
 <| And.intro @arith.eq_1
 <| And.intro @arith.eq_2
 <| And.intro @arith.eq_3
 <| And.intro @zj.eq_1
 <| And.intro @zj.eq_2
 <| And.intro @zj.eq_3
 <| And.intro @zj.eq_4
 <| And.intro @zj.eq_5
 <| And.intro @zj.eq_6
 <| And.intro @lN.eq_1
 <| And.intro @lN.eq_2
 <| And.intro @lN.eq_3
 <| And.intro @ns.eq_1
 <| And.intro @ns.eq_2
 <| And.intro @gN.eq_1
 <| And.intro @vC.eq_1
 <| And.intro @ja.eq_1
 <| And.intro @ja.eq_2
 <| And.intro @ja.eq_3
 <| And.intro @kZ.eq_1
 <| And.intro @kZ.eq_2
 <| And.intro @dX.eq_1
 <| And.intro @kX.eq_1
 <| And.intro @dm.eq_1
 <| And.intro @dm.eq_2
 <| And.intro @tj.eq_1
 <| And.intro @tj.eq_2
 <| And.intro @rR.eq_1
 <| And.intro @rR.eq_2
 <| And.intro @rR.eq_3
 <| And.intro @rR.eq_4
 <| And.intro @rR.eq_5
 <| And.intro @rR.eq_6
 <| And.intro @kV.eq_1
 <| And.intro @dW.eq_1
 <| And.intro @dW.eq_2
 <| And.intro @dW.eq_3
 <| And.intro @eM.eq_def
 <| And.intro @Jo
 <| And.intro @da.eq_1
 <| And.intro @da.eq_2
 <| And.intro @da.eq_3
 <| And.intro @da.eq_4
 <| And.intro @da.eq_5
 <| And.intro @gK.eq_1
 <| And.intro @kF.eq_1
 <| And.intro @nB.eq_1
 <| And.intro @nB.eq_2
 <| And.intro @dq.eq_1
 <| And.intro @jq.eq_1
 <| And.intro @jq.eq_2
 <| And.intro @jq.eq_3
 <| And.intro @ew.eq_1
 <| And.intro @ew.eq_2
 <| And.intro @ew.eq_3
 <| And.intro @cJ.eq_1
 <| And.intro @cJ.eq_2
 <| And.intro @cJ.eq_3
 <| And.intro @cJ.eq_4
 <| And.intro @cJ.eq_5
 <| And.intro @fF.eq_1
 <| And.intro @fF.eq_2
 <| And.intro @AV.cells.eq_1
 <| And.intro @AV.cells.eq_2
 <| And.intro @AV.cells.eq_3
 <| And.intro @AV.isAgg.eq_1
 <| And.intro @AV.isAgg.eq_2
 <| And.intro @AV.isAgg.eq_3
 <| And.intro @eO.eq_1
 <| And.intro @eO.eq_2
 <| And.intro @eO.eq_3
 <| And.intro @o8.eq_1
 <| And.intro @aq.eq_1
 <| And.intro @aq.eq_2
 <| And.intro @aq.eq_3
 <| And.intro @aE.eq_1
 <| And.intro @aE.eq_2
 <| And.intro @aE.eq_3
 <| And.intro @dc.eq_1
 <| And.intro @dc.eq_2
 <| And.intro @dc.eq_3
 <| And.intro @dc.eq_4
 <| And.intro @br.eq_1
 <| And.intro @br.eq_2
 <| And.intro @br.eq_3
 <| And.intro @br.eq_4
 <| And.intro @br.eq_5
 <| And.intro @br.eq_6
 <| And.intro @br.eq_7
 <| And.intro @iB.eq_1
 <| And.intro @iB.eq_2
 <| And.intro @after.eq_1
 <| And.intro @au.eq_1
 <| And.intro @au.eq_2
 <| And.intro @St.put.eq_1
 <| And.intro @St.put.eq_2
 <| And.intro @St.get.eq_1
 <| And.intro @lk.eq_1
 <| And.intro @lk.eq_2
 <| And.intro @St.ev.eq_1
 <| And.intro @St.ev.eq_2
 <| And.intro @St.ev.eq_3
 <| And.intro @St.ev.eq_4
 <| And.intro @cv.eq_1
 <| And.intro @cv.eq_2
 <| And.intro @cv.eq_3
 <| And.intro @cv.eq_4
 <| And.intro @cv.eq_5
 <| And.intro @PV.one.eq_1
 <| And.intro @PV.one.eq_2
 <| And.intro @PV.one.eq_3
 <| And.intro @entry.eq_1
 <| And.intro @zl.eq_1
 <| And.intro @zl.eq_2
 <| And.intro @vF.eq_1
 <| And.intro @vF.eq_2
 <| And.intro @vF.eq_3
 <| And.intro @jB.eq_1
 <| And.intro @jB.eq_2
 <| @eN.eq_1
def aG:=And.intro @Bool.not_eq_true'
 <| And.intro @Bool.not_eq_false'
 <| And.intro @Bool.not_eq_true
 <| And.intro @Bool.not_eq_false
 <| And.intro @Bool.and_eq_true
 <| And.intro @Bool.and_eq_false_iff
 <| And.intro @Bool.or_eq_true
 <| And.intro @Bool.or_eq_false_iff
 <| And.intro @decide_eq_true_eq
 <| And.intro @decide_eq_false_iff_not
 <| @Decidable.not_not
def leq:=And.intro @AV.p.injEq
 <| And.intro @AV.sl.injEq
 <| And.intro @AV.ptr.injEq
 <| And.intro @aM.own.injEq
 <| And.intro @PV.int.injEq
 <| And.intro @PV.bool.injEq
 <| And.intro @PV.list.injEq
 <| And.intro @Nat.sub_zero
 <| And.intro @Int.natCast_add
 <| And.intro @List.length_append.{0}
 <| And.intro @qB
 <| And.intro @yi
 <| And.intro @y9
 <| And.intro @List.nodup_cons.{0}
 <| And.intro @List.nodup_nil.{0}
 <| And.intro @List.mem_cons.{0}
 <| And.intro @List.not_mem_nil.{0}
 <| And.intro @or_false
 <| @not_false_eq_true
def bf:=And.intro @Le.eq_1
 <| And.intro @ky.eq_1
 <| And.intro @ky.eq_2
 <| And.intro @ky.eq_3
 <| And.intro @kn.eq_1
 <| And.intro @kn.eq_2
 <| And.intro @kg.eq_1
 <| And.intro @kg.eq_2
 <| And.intro @kg.eq_3
 <| And.intro @kg.eq_4
 <| And.intro @kg.eq_5
 <| And.intro @kg.eq_6
 <| And.intro @bl.eq_1
 <| And.intro @bl.eq_2
 <| And.intro @bl.eq_3
 <| And.intro @bl.eq_4
 <| And.intro @bl.eq_5
 <| And.intro @bw.eq_1
 <| And.intro @bw.eq_2
 <| And.intro @bw.eq_3
 <| And.intro @bw.eq_4
 <| And.intro @bw.eq_5
 <| And.intro @bg.eq_1
 <| And.intro @bg.eq_2
 <| And.intro @bg.eq_3
 <| And.intro @bg.eq_4
 <| And.intro @bg.eq_5
 <| And.intro @bt.eq_1
 <| And.intro @bt.eq_2
 <| And.intro @bt.eq_3
 <| And.intro @bt.eq_4
 <| And.intro @bt.eq_5
 <| And.intro @bt.eq_6
 <| And.intro @bt.eq_7
 <| And.intro @bt.eq_8
 <| @bt.eq_9
def bG:=And.intro @DW.eq_1
 <| And.intro @DW.eq_2
 <| And.intro @DW.eq_3
 <| And.intro @Cf.eq_1
 <| And.intro @mN.eq_1
 <| And.intro @mN.eq_2
 <| And.intro @Cp.eq_1
 <| And.intro @Cp.eq_2
 <| And.intro @js.eq_1
 <| And.intro @js.eq_2
 <| And.intro @uW.eq_1
 <| And.intro @uW.eq_2
 <| And.intro @dO.eq_1
 <| And.intro @dO.eq_2
 <| And.intro @dO.eq_3
 <| And.intro @dI.eq_1
 <| And.intro @dI.eq_2
 <| And.intro @dI.eq_3
 <| And.intro @dI.eq_4
 <| And.intro @cy.eq_1
 <| And.intro @cy.eq_2
 <| And.intro @PV.norm.eq_1
 <| And.intro @PV.norm.eq_2
 <| And.intro @PV.qS.eq_1
 <| And.intro @PV.qS.eq_2
 <| And.intro @PV.nQ.eq_1
 <| And.intro @PV.nQ.eq_2
 <| And.intro @PV.nQ.eq_3
 <| And.intro @PV.nQ.eq_4
 <| And.intro @PV.list.injEq
 <| And.intro @PV.tup.injEq
 <| And.intro @PV.agg.injEq
 <| And.intro @PV.int.injEq
 <| And.intro @PV.bool.injEq
 <| @List.cons.injEq.{0}
def Kq:=And.intro @Kn
 <| And.intro @Km
 <| And.intro @oS
 <| And.intro @Bi
 <| And.intro @FE
 <| And.intro @F0
 <| And.intro @FO
 <| And.intro @Int.cast_ofNat_Int
 <| And.intro @decide_true
 <| And.intro @decide_false
 <| And.intro @beq_self_eq_true.{0}
 <| And.intro @bne_self_eq_false.{0}
 <| And.intro @ite_true.{1}
 <| And.intro @ite_false.{1}
 <| And.intro @if_true.{1}
 <| @if_false.{1}
open Go.RowKit
section
variable {P:Program} {T:TypeId→Option TI} {C:Ctx} {m:Map} {s:St} {tmps:Array Value} {w:World} {Q:Exit→St→Prop}
theorem Rel.cells (R:Rel C m s tmps w) {k:Nat} {c c' : List AV} (hk:aq s.H k = .own c) (hl:c'.length=c.length)
  (hc:∀ j (h:j < c.length) (h' : j < c'.length) v,aJ (Reads (OK C m s.H w) w) m s.H c[j] v→aJ (Reads (OK C m s.H w) w) m s.H c'[j] v):Rel C m { s with H:=aE s.H k (.own c') } tmps w:=by
 have hk:=bn hk
 have hkl:k < s.H.length:=(List.getElem?_eq_some_iff.1 hk).1
 have aq:∀ (j:Nat) (b:aM),(aE s.H k (.own c'))[j]? = some b→(j=k∧b = .own c')∨(j ≠ k∧s.H[j]? = some b):=by
  intro j b h
  rw [cq] at h
  by_cases e:j=k
  ·rw [if_pos ⟨e,hkl⟩] at h; exact .inl ⟨e,(Option.some.inj h).symm⟩
  rw [if_neg (by simp [e])] at h; exact .inr ⟨e,h⟩
 have own:∀ (j:Nat) (d:List AV),(aE s.H k (.own c'))[j]? = some (.own d)→∃ d',s.H[j]? = some (.own d'):=by
  intro j d h
  rcases aq j _ h with ⟨rfl,h⟩ | h
  ·exact ⟨c,hk⟩
  exact ⟨d,h.2⟩
 have hok:∀ b,OK C m s.H w b→∀ j d l,(aE s.H k (.own c'))[j]? = some (.own d)→m j=some l→l.g ≠ b:=fun b hb j d l h hl=>by
  obtain ⟨d',h'⟩:=own j d h
  exact hb.2.2 j d' l h' hl
 have ho:∀ b,OK C m s.H w b→OK C m (aE s.H k (.own c')) w b:=fun b h=>⟨h.1,h.2.1,hok b h⟩
 refine R.heap (b8.refl _ _) (by simp [aB]) (fun _ _=>rfl) hok (fun _ _=>rfl) ?_ ?_ ?_ (lA rfl)
 ·intro j j' c1 c2 l1 l2 h1 h2 h3 h4 h5
  obtain ⟨d1,g1⟩:=own j c1 h1
  obtain ⟨d2,g2⟩:=own j' c2 h2
  exact R.inj j j' d1 d2 l1 l2 g1 g2 h3 h4 h5
 ·intro j d h
  rcases aq j _ h with ⟨rfl,h'⟩ | ⟨hne,h⟩
  ·cases h'
   rcases R.blk j c hk with ⟨hc0,hn⟩ | ⟨l,cur,e,hl2,hB,hg,h1,h2,h3,hcells⟩
   ·subst hc0
    exact .inl ⟨List.eq_nil_of_length_eq_zero (by simpa using hl),hn⟩
   refine .inr ⟨l,cur,e,hl2,hB,hg,h1,h2,by omega,fun i hi=>?_⟩
   exact (hc i (by omega) hi _ (hcells i (by omega))).ext (fun p v h=>h.ext ho fun _ _=>rfl) (by simp [aB]) fun _ _=>rfl
  exact (R.blk j d h).ext (fun p v h=>h.ext ho fun _ _=>rfl) (by simp [aB]) (fun _ _=>rfl) rfl fun _ _=>rfl
 intro j d h
 rcases aq j _ h with ⟨rfl,h'⟩ | ⟨hne,h⟩
 ·cases h'
 exact (R.fro j d h).ext ho (fun _ _=>rfl) rfl
theorem AI {c:Code} (k:Nat) {b b' : List AV} (hk:aq s.H k = .own b) (hl:b'.length=b.length)
  (hc:∀ C m tmps w,Rel C m s tmps w→∀ j (h:j < b.length) (h' : j < b'.length) v,aJ (Reads (OK C m s.H w) w) m s.H b[j] v→aJ (Reads (OK C m s.H w) w) m s.H b'[j] v)
  (h:Holds P c Q { s with H:=aE s.H k (.own b') }):Holds P c Q s:=
 fun r ds C m a w R hd=>h r ds C m a w (R.cells hk hl (hc C m a.tmps w R)) hd
theorem u0 {c:Code} (k j:Nat) {b:List AV} (hk:aq s.H k = .own b) (hj:b[j]? = some (.p .nil)) (h:Holds P c Q { s with H:=aE (s.H++[.own []]) k (.own (b.set j (.sl s.H.length 0 0))) }):Holds P c Q s:=by
 intro r ds C m a w R hd
 have R':=R.rv
 have hk' : aq (s.H++[.own []]) k = .own b:=by
  have h1:=bn hk
  have key:∀ (H:ay) (k:Nat) (b:aM) (H2:ay),H[k]? = some b→aq (H++H2) k=b:=by
   intro H
   induction H with
   | nil=>intro k b H2 h; simp at h
   | cons x r ih =>
    intro k b H2 h
    cases k with
    | zero=>simp at h; exact h
    | succ k=>exact ih k b H2 (by simpa using h)
  exact key _ _ _ _ h1
 refine h r ds C _ a w (R'.cells (s:={ s with H:=s.H++[.own []] }) hk' (by simp) fun i hi hi' v hv=>?_) hd
 by_cases e:j=i
 ·subst e
  rw [List.getElem_set_self]
  have hb:b[j] = .p .nil:=by
   rw [List.getElem?_eq_getElem hi] at hj
   exact Option.some.inj hj
  rw [hb] at hv
  have:=hv.aQ.eZ
  subst this
  exact .sl _ _ _ _ (by simp) <| .inl ⟨rfl,none,rfl⟩
 rw [List.getElem_set_ne e]
 exact hv
theorem oO {c:Code} (k j:Nat) {b:List AV} {x:AV} (hk:aq s.H k = .own b) (hj:b[j]? = some x) {p:Prop} {pv:PV} (hx:dI s.H x=some (p,pv,true)) (hp:p)
  (h:Holds P c Q { s with H:=aE s.H k (.own (b.set j (.p pv))) }):Holds P c Q s:=by
 refine AI k hk (by simp) (fun C m tmps w R i hi hi' v hv=>?_) h
 by_cases e:j=i
 ·subst e
  rw [List.getElem_set_self]
  have hb:b[j]=x:=by
   rw [List.getElem?_eq_getElem hi] at hj
   exact Option.some.inj hj
  rw [hb] at hv
  exact .p _ _ ((ka R hv hx hp).2 rfl)
 rw [List.getElem_set_ne e]
 exact hv
end
def bF (l:List PV):List AV:=l.map .p
theorem bE (l:List PV):(bF l).length=l.length:=by simp [bF]
theorem B1 (l:List PV) (n:Nat):(bF l).take n=bF (l.take n):=by simp [bF]
theorem zz (l:List PV) (n:Nat):(bF l).drop n=bF (l.drop n):=by simp [bF]
theorem vD (l r:List PV):bF l++bF r=bF (l++r):=by simp [bF]
theorem lR (l:List PV) (x:PV):bF l++[.p x]=bF (l++[x]):=by simp [bF]
theorem jS (l:List PV) (π:List Nat):(bF l).map (Go.Pv.bl π)=bF l:=by simp [bF,Go.Pv.bl,bw]
theorem mH (l:List PV) (n:Nat):(bF l).all (bg n)=true:=by simp [bF,bg,bt]
theorem lY (l:List PV):eO (bF l)=some l:=by
 unfold bF
 induction l with
 | nil=>rfl
 | cons x r ih=>simp [eO,ih]
theorem vO {l:List PV} (h:l.all PV.one=true):(bF l).all br=true:=by
 unfold bF
 rw [List.all_map]
 exact h
theorem kU (r:List (List Int)):(bF (ll r)).all br=true:=vO (iz r)
theorem bL (r:List (List Int)) (x:List Int):ll r++[.list (il x)]=ll (r++[x]):=by simp [ll]
def Kd:=And.intro @bE
 <| And.intro @B1
 <| And.intro @zz
 <| And.intro @vD
 <| And.intro @lR
 <| And.intro @jS
 <| And.intro @mH
 <| And.intro @lY
 <| And.intro @kU
 <| And.intro @bL
 <| And.intro @aw
 <| And.intro @iz
 <| @tu
def aj := And.intro J8 <| And.intro Kp <| And.intro Kq Kd
theorem gh:∀ (H:ay) (k:Nat) (b:aM),k < H.length→aq (aE H k b) k=b
 | [],k,b,h=>by simp at h
 | x :: r,0,b,h=>rfl
 | x :: r,k + 1,b,h=>gh r k b (by simpa using h)
theorem lr {P:Program} {s:St} {c:Code} {Q:Exit→St→Prop} (t k:Nat) {l:List PV} (hone:l.all PV.one=true) (h1:s.get t = .sl k 0 l.length) (h2:aq s.H k = .own (bF l)) (h:Holds P c Q { s with sl:=(t,.p (.list l)) :: s.sl,H:=aE s.H k (.fro l) }):Holds P c Q s:=by
 refine bO k h2 (lY l) (oG (s:={ s with H:=aE s.H k (.fro l) }) t (p:=0 + l.length≤l.length∧((l.drop 0).take l.length).all PV.one=true) (pv:=.list ((l.drop 0).take l.length)) ?_ ?_ ?_)
 ·have e:({ s with H:=aE s.H k (.fro l) } : St).get t = .sl k 0 l.length:=h1
  rw [e]
  have hk:=bn h2
  have hkl:k < s.H.length:=(List.getElem?_eq_some_iff.1 hk).1
  simp only [dO,dI,gh _ _ _ hkl]
 ·simp only [List.drop_zero,gl]
  exact ⟨by omega,hone⟩
 simp only [List.drop_zero,gl]
 exact h
open Go.RowKit
inductive bq (κ:Nat):AV→Prop
 | dead:bq κ .dead
 | p (v:PV):bq κ (.p v)
 | sl (k lo len:Nat) (h:k ≠ κ):bq κ (.sl k lo len)
 | ptr (k i:Nat) (h:k ≠ κ):bq κ (.ptr k i)
 | mptr (k:Nat) (h:k ≠ κ):bq κ (.mptr k)
 | yv (k:Nat) (l:List AV) (vs:Array Value) (h:k ≠ κ) (h2:∀ c (h:c < l.length),bq κ l[c]):bq κ (.yv k l vs)
 | agg (l:List AV) (h:∀ c (h:c < l.length),bq κ l[c]):bq κ (.agg l)
 | tup (l:List AV) (h:∀ c (h:c < l.length),bq κ l[c]):bq κ (.tup l)
 | cl (f:FuncId) (l:List AV) (h:∀ c (h:c < l.length),bq κ l[c]):bq κ (.cl f l)
 | me (r:Nat):bq κ (.me r)
 | sls (k lo len sz:Nat) (h:k ≠ κ):bq κ (.sls k lo len sz)
def xb (κ:Nat):AV→Bool
 | .sl k _ _=>k != κ
 | .sls k _ _ _=>k != κ
 | .ptr k _=>k != κ
 | .mptr k=>k != κ
 | .agg _=>false
 | .tup _=>false
 | .cl _ _=>false
 | .yv _ _ _=>false
 | _=>true
def Jb (κ:Nat):AV→Bool
 | .agg l=>l.all (xb κ)
 | .tup l=>l.all (xb κ)
 | .cl _ l=>l.all (xb κ)
 | .yv k l _=>(k != κ) && l.all (xb κ)
 | x=>xb κ x
theorem fg {κ:Nat} {x:AV} (h:xb κ x=true):bq κ x:=by
 cases x with
 | dead=>exact .dead
 | p v=>exact .p v
 | sl k lo len=>exact .sl _ _ _ (by simpa [xb] using h)
 | ptr k i=>exact .ptr _ _ (by simpa [xb] using h)
 | mptr k=>exact .mptr _ (by simpa [xb] using h)
 | yv k l vs=>simp [xb] at h
 | agg l=>simp [xb] at h
 | tup l=>simp [xb] at h
 | cl f l=>simp [xb] at h
 | me r=>exact .me r
 | sls k lo len sz=>exact .sls _ _ _ _ (by simpa [xb] using h)
theorem uo {κ:Nat} {x:AV} (h:Jb κ x=true):bq κ x:=by
 cases x with
 | agg l=>exact .agg l fun c hc=>fg ((List.all_eq_true.1 h) _ (List.getElem_mem hc))
 | tup l=>exact .tup l fun c hc=>fg ((List.all_eq_true.1 h) _ (List.getElem_mem hc))
 | cl f l=>exact .cl f l fun c hc=>fg ((List.all_eq_true.1 h) _ (List.getElem_mem hc))
 | dead=>exact .dead
 | p v=>exact .p v
 | sl k lo len=>exact fg h
 | ptr k i=>exact fg h
 | mptr k=>exact fg h
 | yv k l vs =>
  simp only [Jb,Bool.and_eq_true,bne_iff_ne] at h
  exact .yv _ _ _ h.1 fun c hc=>fg ((List.all_eq_true.1 h.2) _ (List.getElem_mem hc))
 | me r=>exact .me r
 | sls k lo len sz=>exact fg h
theorem aJ.uI {rd:PV→Value→Prop} {m:Map} {H:ay} {x:AV} {v:Value} (h:aJ rd m H x v) {κ:Nat} (hk:H.length≤κ):bq κ x:=by
 induction h with
 | dead v=>exact .dead
 | p pv v h=>exact .p pv
 | sl k lo len v hk' h=>exact .sl _ _ _ (by omega)
 | ptr k i v hk' h=>exact .ptr _ _ (by omega)
 | mptr k v hk' h=>exact .mptr _ (by omega)
 | yv k l vs v hk' h hl hr ih=>exact .yv _ _ _ (by omega) ih
 | agg l vs hl hr ih=>exact .agg l ih
 | tup l vs hl hr ih=>exact .tup l ih
 | cl f l vs hl hr ih=>exact .cl f l ih
 | me r=>exact .me r
 | sls k lo len sz v hk' h=>exact .sls _ _ _ _ (by omega)
theorem aJ.Gr {rd rd' : PV→Value→Prop} {m m' : Map} {H H' : ay} {κ L:Nat} (h1:∀ p v,rd p v→rd' p v) (h2:∀ k,k ≠ κ→k ≠ L→k < H.length→m' k=m k∧k < H'.length) {a:AV} {v:Value} (h:aJ rd m H a v) (hk:bq κ a) (hL:bq L a):aJ rd' m' H' a v:=by
 induction h with
 | dead v=>exact .dead v
 | p pv v h=>exact .p pv v (h1 _ _ h)
 | sl k lo len v hk' h =>
  cases hk with
  | sl _ _ _ e1 =>
  cases hL with
  | sl _ _ _ e2 =>
  obtain ⟨e3,e4⟩:=h2 k e1 e2 hk'
  refine .sl k lo len v e4 ?_
  rcases h with h | ⟨l,cap,h,r⟩
  ·exact .inl h
  exact .inr ⟨l,cap,by rw [e3]; exact h,r⟩
 | mptr k v hk' h =>
  cases hk with
  | mptr _ e1 =>
  cases hL with
  | mptr _ e2 =>
  obtain ⟨e3,e4⟩:=h2 k e1 e2 hk'
  refine .mptr k v e4 ?_
  obtain ⟨l,h,r⟩:=h
  exact ⟨l,by rw [e3]; exact h,r⟩
 | yv k l vs v hk' h hl hr ih =>
  cases hk with
  | yv _ _ _ e1 f1 =>
  cases hL with
  | yv _ _ _ e2 f2 =>
  obtain ⟨e3,e4⟩:=h2 k e1 e2 hk'
  refine .yv k l vs v e4 ?_ hl fun c hc=>ih c hc (f1 c hc) (f2 c hc)
  obtain ⟨l,h,r⟩:=h
  exact ⟨l,by rw [e3]; exact h,r⟩
 | ptr k i v hk' h =>
  cases hk with
  | ptr _ _ e1 =>
  cases hL with
  | ptr _ _ e2 =>
  obtain ⟨e3,e4⟩:=h2 k e1 e2 hk'
  refine .ptr k i v e4 ?_
  obtain ⟨l,h,r⟩:=h
  exact ⟨l,by rw [e3]; exact h,r⟩
 | agg l vs hl hr ih =>
  cases hk with
  | agg _ e1 =>
  cases hL with
  | agg _ e2=>exact .agg l vs hl fun c hc=>ih c hc (e1 c hc) (e2 c hc)
 | tup l vs hl hr ih =>
  cases hk with
  | tup _ e1 =>
  cases hL with
  | tup _ e2=>exact .tup l vs hl fun c hc=>ih c hc (e1 c hc) (e2 c hc)
 | cl f l vs hl hr ih =>
  cases hk with
  | cl _ _ e1 =>
  cases hL with
  | cl _ _ e2=>exact .cl f l vs hl fun c hc=>ih c hc (e1 c hc) (e2 c hc)
 | me r=>exact .me r
 | sls k lo len sz v hk' h =>
  cases hk with
  | sls _ _ _ _ e1 =>
  cases hL with
  | sls _ _ _ _ e2 =>
  obtain ⟨e3,e4⟩:=h2 k e1 e2 hk'
  refine .sls k lo len sz v e4 ?_
  rcases h with h | ⟨l,cap,h,r⟩
  ·exact .inl h
  exact .inr ⟨l,cap,by rw [e3]; exact h,r⟩
section
variable {P:Program} {T:TypeId→Option TI} {C:Ctx} {m:Map} {s:St} {tmps:Array Value} {w:World}
theorem aU:∀ (H:ay) (k j:Nat) (b:aM),aq (aE H k b) j=if j=k∧k < H.length then b else aq H j
 | [],k,j,b=>by simp [aE]
 | x :: r,0,0,b=>by simp [aE,aq]
 | x :: r,0,j + 1,b=>by simp [aE,aq]
 | x :: r,k + 1,0,b=>by simp [aE,aq]
 | x :: r,k + 1,j + 1,b=>by simp [aE,aq,aU r k j b]
theorem ji:∀ {H H' : ay},H.length=H'.length→(∀ j,aq H j=aq H' j)→H=H'
 | [],[],_,_=>rfl
 | x :: r,y :: t,hl,h=>by
  have h0:=h 0
  simp only [aq] at h0
  rw [h0,ji (H:=r) (H':=t) (by simpa using hl) fun j=>by simpa [aq] using h (j + 1)]
 | [],_ :: _,hl,_=>by simp at hl
 | _ :: _,[],hl,_=>by simp at hl
theorem aF:∀ {H H2:ay} {j:Nat},j < H.length→aq (H++H2) j=aq H j
 | x :: r,H2,0,_=>rfl
 | x :: r,H2,j + 1,h=>by simpa [aq] using aF (H:=r) (H2:=H2) (j:=j) (by simpa using h)
 | [],H2,j,h=>by simp at h
theorem a8:∀ {H H2:ay} {j:Nat},H.length≤j→aq (H++H2) j=aq H2 (j - H.length)
 | [],H2,j,_=>by simp
 | x :: r,H2,0,h=>by simp at h
 | x :: r,H2,j + 1,h=>by
  simp only [List.cons_append,aq,List.length_cons]
  rw [a8 (H:=r) (by simpa using h)]
  congr 1; omega
theorem ln:∀ (n j:Nat),aq (List.replicate n aM.dead) j = .dead
 | 0,j=>rfl
 | n + 1,0=>rfl
 | n + 1,j + 1=>by simpa [List.replicate_succ,aq] using ln n j
theorem Rel.pad (R:Rel C m s tmps w) (n:Nat):Rel C m { s with H:=s.H++List.replicate n .dead } tmps w:=by
 have hg:∀ (k:Nat) (b:aM),(s.H++List.replicate n .dead)[k]? = some b→b ≠ .dead→s.H[k]? = some b:=by
  intro k b h hb
  by_cases hk:k < s.H.length
  ·rwa [List.getElem?_append_left hk] at h
  rw [List.getElem?_append_right (by omega),List.getElem?_replicate] at h
  split at h
  ·cases h; exact absurd rfl hb
  cases h
 have hok:∀ b,OK C m s.H w b→∀ k c l,(s.H++List.replicate n .dead)[k]? = some (.own c)→m k=some l→l.g ≠ b:=fun b hb k c l h hl=>hb.2.2 k c l (hg k _ h (by simp)) hl
 have ho:∀ b,OK C m s.H w b→OK C m (s.H++List.replicate n .dead) w b:=fun b h=>⟨h.1,h.2.1,hok b h⟩
 refine R.heap (b8.refl _ _) (by simp) (fun _ _=>rfl) hok (fun _ _=>rfl) ?_ ?_ ?_ (fun k b hb h=>hg k _ h (by intro e; subst e; cases hb))
 ·exact fun k k' c c' l l' h1 h2 h3 h4 h5=>R.inj k k' c c' l l' (hg k _ h1 (by simp)) (hg k' _ h2 (by simp)) h3 h4 h5
 ·exact fun k c h=>(R.blk k c (hg k _ h (by simp))).ext (fun p v h=>h.ext ho fun _ _=>rfl) (by simp) (fun _ _=>rfl) rfl fun _ _=>rfl
 exact fun k c h=>(R.fro k c (hg k _ h (by simp))).ext ho (fun _ _=>rfl) rfl
theorem Rel.move {m' : Map} {b:aM} {w' : World} {κ:Nat} (R:Rel C m s tmps w) (R' : Rel C m' { s with H:=s.H++[b] } tmps w') (hκ:s.H[κ]? = some .dead) (ha:∀ (k i j:Nat),s.H[k]? = some (aM.dA i j)→j ≠ κ) (ha2:∀ i j,b ≠ aM.dA i j)
  (hn:∀ t,bq κ (s.get t)) (hc:∀ (k:Nat) (c:List AV),s.H[k]? = some (aM.own c)→∀ (j:Nat) (h:j < c.length),bq κ c[j]) (hb:∀ (c:List AV),b=aM.own c→∀ (j:Nat) (h:j < c.length),bq κ c[j]∧bq s.H.length c[j]) :
  Rel C (bM m' κ (m' s.H.length)) { s with H:=aE s.H κ b } tmps w'∧(∀ i v,aJ (Reads (OK C m' (s.H++[b]) w') w') m' (s.H++[b]) (.ptr s.H.length i) v→aJ (Reads (OK C (bM m' κ (m' s.H.length)) (aE s.H κ b) w') w') (bM m' κ (m' s.H.length)) (aE s.H κ b) (.ptr κ i) v) ∧
   (∀ lo len v,aJ (Reads (OK C m' (s.H++[b]) w') w') m' (s.H++[b]) (.sl s.H.length lo len) v→aJ (Reads (OK C (bM m' κ (m' s.H.length)) (aE s.H κ b) w') w') (bM m' κ (m' s.H.length)) (aE s.H κ b) (.sl κ lo len) v):=by
 have hκl:κ < s.H.length:=(List.getElem?_eq_some_iff.1 hκ).1
 have hml:∀ k,k ≠ κ→bM m' κ (m' s.H.length) k=m' k:=fun k hk=>by simp [bM,hk]
 have hmk:bM m' κ (m' s.H.length) κ=m' s.H.length:=by simp [bM]
 have hgl:(s.H++[b])[s.H.length]? = some b:=by simp
 have hg:∀ (k:Nat) (d:aM),(aE s.H κ b)[k]? = some d→(k=κ∧d=b)∨(k ≠ κ∧s.H[k]? = some d∧(s.H++[b])[k]? = some d):=by
  intro k d h
  rw [cq] at h
  by_cases e:k=κ
  ·rw [if_pos ⟨e,hκl⟩] at h; exact .inl ⟨e,(Option.some.inj h).symm⟩
  rw [if_neg (by simp [e])] at h
  exact .inr ⟨e,h,by rw [List.getElem?_append_left (List.getElem?_eq_some_iff.1 h).1]; exact h⟩
 have hok:∀ x,OK C m' (s.H++[b]) w' x→OK C (bM m' κ (m' s.H.length)) (aE s.H κ b) w' x:=by
  refine fun x hx=>⟨hx.1,hx.2.1,fun k c l h hl=>?_⟩
  rcases hg k _ h with ⟨rfl,e⟩ | ⟨hne,_,h2⟩
  ·rw [hmk] at hl
   exact hx.2.2 _ c l (by rw [hgl,e]) hl
  rw [hml k hne] at hl
  exact hx.2.2 k c l h2 hl
 have hrd:∀ p v,Reads (OK C m' (s.H++[b]) w') w' p v→Reads (OK C (bM m' κ (m' s.H.length)) (aE s.H κ b) w') w' p v:=fun p v h=>h.mono hok
 have hmv:∀ k,k ≠ κ→k ≠ s.H.length→k < (s.H++[b]).length→bM m' κ (m' s.H.length) k=m' k∧k < (aE s.H κ b).length:=by
  intro k h1 h2 h3
  refine ⟨hml k h1,?_⟩
  rw [aB]; simp at h3; omega
 have mps:∀ (k:Nat) (kk:IntKind) (d:Int→Bool) (v:Int→PV),(aE s.H κ b)[k]? = some (aM.mp kk d v)→∃ j,(s.H++[b])[j]? = some (aM.mp kk d v)∧bM m' κ (m' s.H.length) k=m' j∧(k=κ∧j=s.H.length∨k ≠ κ∧j=k∧k < s.H.length):=by
  intro k kk d v h
  rcases hg k _ h with ⟨rfl,e⟩ | ⟨hne,h1,h2⟩
  ·exact ⟨s.H.length,by rw [hgl,e],hmk,.inl ⟨rfl,rfl⟩⟩
  exact ⟨k,h2,hml k hne,.inr ⟨hne,rfl,(List.getElem?_eq_some_iff.1 h1).1⟩⟩
 refine ⟨⟨R'.laid.ext hrd,R'.below,R'.base,R'.size,?_,?_,?_,fun t=>?_,fun k kk d v h=>?_,fun k k' kk d v kk' d' v' l l' h1 h2 h3 h4 h5=>?_,fun k i j h=>?_,?_⟩,fun i v hv=>?_,fun lo len v hv=>?_⟩
 rotate_left 7
 ·have lps:∀ (k:Nat) (r:Loop),(aE s.H κ b)[k]? = some (aM.lp r)→∃ j,(s.H++[b])[j]? = some (aM.lp r)∧bM m' κ (m' s.H.length) k=m' j∧j=(if k=κ then s.H.length else k)∧k < s.H.length:=by
   intro k r h
   rcases hg k _ h with ⟨rfl,e⟩ | ⟨hne,h1,h2⟩
   ·exact ⟨s.H.length,by rw [hgl,e],hmk,by simp,hκl⟩
   exact ⟨k,h2,hml k hne,by simp [hne],(List.getElem?_eq_some_iff.1 h1).1⟩
  refine R'.mp.2.2.2.ext (fun k=>if k=κ then s.H.length else k) (fun k r h=>?_) (fun k k' r r' h1 h2 e=>?_) (fun _ _ _ _ _ _=>rfl) fun _ _ _ _ _ h=>h
  ·obtain ⟨j,j1,j2,j3,_⟩:=lps k r h
   simp only [← j3]; exact ⟨j1,j2⟩
  obtain ⟨_,_,_,_,j4⟩:=lps k r h1
  obtain ⟨_,_,_,_,i4⟩:=lps k' r' h2
  split at e<;>split at e<;>omega
 rotate_left 2
 rotate_left 4
 ·obtain ⟨j,j1,j2,_⟩:=mps k kk d v h
  obtain ⟨l,ar,clk,vs,a1,a2,a3,a4,a5,a6,a7⟩:=R'.mp.1 j kk d v j1
  exact ⟨l,ar,clk,vs,by rw [j2]; exact a1,a2,a3,a4,a5,a6,fun z hz=>hrd _ _ (a7 z hz)⟩
 ·obtain ⟨j,j1,j2,j3⟩:=mps _ _ _ _ h1
  obtain ⟨i,i1,i2,i3⟩:=mps _ _ _ _ h2
  rw [j2] at h3; rw [i2] at h4
  have:=R'.mp.2.1 _ _ _ _ _ _ _ _ _ _ j1 i1 h3 h4 h5
  omega
 ·rcases hg k _ h with ⟨rfl,e⟩ | ⟨hne,h1,h2⟩
  ·exact absurd e.symm (ha2 i j)
  obtain ⟨c1,c2⟩:=R'.mp.2.2.1 k i j h2
  have hj:=(R.mp.2.2.1 k i j h1).1
  exact ⟨by rw [aB]; exact hj,by rw [hml j (ha k i j h1)]; exact c2⟩
 rotate_left 2
 ·intro k k' c c' l l' h1 h2 h3 h4 h5
  rcases hg k _ h1 with ⟨rfl,e1⟩ | ⟨n1,g1,f1⟩<;>rcases hg k' _ h2 with ⟨rfl,e2⟩ | ⟨n2,g2,f2⟩
  ·rfl
  ·rw [hmk] at h3; rw [hml k' n2] at h4
   have:=R'.inj _ k' c c' l l' (by rw [hgl,e1]) f2 h3 h4 h5
   have:=(List.getElem?_eq_some_iff.1 g2).1
   omega
  ·rw [hmk] at h4; rw [hml k n1] at h3
   have:=R'.inj k _ c c' l l' f1 (by rw [hgl,e2]) h3 h4 h5
   have:=(List.getElem?_eq_some_iff.1 g1).1
   omega
  rw [hml k n1] at h3; rw [hml k' n2] at h4
  exact R'.inj k k' c c' l l' f1 f2 h3 h4 h5
 ·intro k c h
  rcases hg k _ h with ⟨rfl,e1⟩ | ⟨n1,g1,f1⟩
  ·rcases R'.blk _ c (by rw [hgl,e1]) with ⟨a1,a2⟩ | ⟨l,cur,e,a1,a2,a3,a4,a5,a6,a7⟩
   ·exact .inl ⟨a1,by rw [hmk]; exact a2⟩
   exact .inr ⟨l,cur,e,by rw [hmk]; exact a1,a2,a3,a4,a5,a6,fun j hj=>(a7 j hj).Gr hrd hmv (hb c e1.symm j hj).1 (hb c e1.symm j hj).2⟩
  rcases R'.blk k c f1 with ⟨a1,a2⟩ | ⟨l,cur,e,a1,a2,a3,a4,a5,a6,a7⟩
  ·exact .inl ⟨a1,by rw [hml k n1]; exact a2⟩
  refine .inr ⟨l,cur,e,by rw [hml k n1]; exact a1,a2,a3,a4,a5,a6,fun j hj=>(a7 j hj).Gr hrd hmv (hc k c g1 j hj) ?_⟩
  rcases R.blk k c g1 with ⟨b1,_⟩ | ⟨l2,cur2,e2,_,_,_,_,_,_,b7⟩
  ·subst b1; simp at hj
  exact (b7 j hj).uI (Nat.le_refl _)
 ·intro k c h
  rcases hg k _ h with ⟨rfl,e1⟩ | ⟨n1,g1,f1⟩
  ·rcases R'.fro _ c (by rw [hgl,e1]) with ⟨a1,a2⟩ | ⟨l,vs,a1,a2,a3,a4⟩
   ·exact .inl ⟨a1,by rw [hmk]; exact a2⟩
   exact .inr ⟨l,vs,by rw [hmk]; exact a1,hok _ a2,a3,fun j hj=>⟨(a4 j hj).1,(a4 j hj).2.mono hok⟩⟩
  exact (R'.fro k c f1).ext hok (fun _ _=>rfl) (hml k n1)
 ·exact (R'.slot t).Gr hrd hmv (hn t) ((R.slot t).uI (Nat.le_refl _))
 ·cases hv with
  | ptr _ _ _ hk h =>
   obtain ⟨l,h,r⟩:=h
   exact .ptr _ _ _ (by rw [aB]; exact hκl) ⟨l,by rw [hmk]; exact h,r⟩
 cases hv with
 | sl _ _ _ _ hk h =>
  refine .sl _ _ _ _ (by rw [aB]; exact hκl) ?_
  rcases h with h | ⟨l,cap,h,r⟩
  ·exact .inl h
  exact .inr ⟨l,cap,by rw [hmk]; exact h,r⟩
end
open Go.RowKit
inductive fq where
 | f
 | ld (k:Nat)
 | st (k:Nat)
 | nw (k:Nat)
 | ap (k k' : Nat)
 | ms (l:List (Nat × aM)) 
instance:Inhabited fq:=⟨.f⟩
def fq.nR:fq→Nat→Bool
 | .f,_=>false
 | .ld k,b=>k == b
 | .st k,b=>k == b
 | .nw k,b=>k == b
 | .ap k k',b=>k == b || k' == b
 | .ms l,b=>l.any fun p=>p.1 == b
def fq.lF:fq→Nat→Bool
 | .st k,b=>k == b
 | .nw k,b=>k == b
 | .ap k k',b=>k == b || k' == b
 | .ms l,b=>l.any fun p=>p.1 == b
 | _,_=>false
def fq.mk:fq→Option Nat
 | .nw k=>some k
 | .ap _ k'=>some k'
 | _=>none
def nC:fq→fq→Bool
 | .f,_=>false
 | _,.f=>false
 | .ld _,.ld _=>false
 | .ld a,y=>y.nR a
 | .st a,y=>y.nR a
 | .nw a,y=>y.nR a
 | .ap a a',y=>y.nR a || y.nR a'
 | .ms l,y=>l.any fun p=>y.nR p.1
theorem fq.rZ {c:fq} {b:Nat} (h:c.lF b=true):c.nR b=true:=by
 cases c<;>simp_all [fq.lF,fq.nR]
theorem qF {x y:fq} (h:nC x y=false) {b:Nat} (hx:x.nR b=true) (hy:y.nR b=true):(∃ k,x = .ld k)∧∃ k,y = .ld k:=by
 have any_no:∀ {l:List (Nat × aM)} {q:Nat→Bool},(l.any fun p=>q p.1)=false→(l.any fun p=>p.1 == b)=true→q b=false:=by
  intro l q h1 h2
  obtain ⟨p,hp,e⟩:=List.any_eq_true.1 h2
  have e:p.1=b:=by simpa using e
  have:=List.any_eq_false.1 h1 p hp
  rw [e] at this
  simpa using this
 cases x with
 | ms l =>
  exfalso
  cases y with
  | f=>simp [fq.nR] at hy
  | _ =>
   have h':=any_no (q:=fun k=>fq.nR _ k) (by simpa [nC] using h) (by simpa [fq.nR] using hx)
   rw [hy] at h'; cases h'
 | _ =>
  cases y with
  | ms l =>
   exfalso
   simp only [nC,fq.nR,beq_iff_eq,Bool.or_eq_true,Bool.or_eq_false_iff] at h hx hy
   first
    | (cases hx; done)
    | (subst hx; rw [hy] at h; cases h; done)
    | (rcases hx with hx|hx<;>subst hx<;>first|(rw [hy] at h; exact absurd h.1 (by decide))|(rw [hy] at h; exact absurd h.2 (by decide)))
  | _=>first|exact ⟨⟨_,rfl⟩,⟨_,rfl⟩⟩|(exfalso; simp [nC,fq.nR] at h hx hy; done)|(exfalso; simp [nC,fq.nR] at h hx hy; omega)
theorem kY {x y:fq} (h:nC x y=false) (b:Nat):¬ (x.nR b=true∧y.lF b=true)∧¬ (x.lF b=true∧y.nR b=true):=by
 constructor
 ·rintro ⟨h1,h2⟩
  obtain ⟨_,k,e⟩:=qF h h1 (fq.rZ h2)
  subst e; cases h2
 rintro ⟨h1,h2⟩
 obtain ⟨⟨k,e⟩,_⟩:=qF h (fq.rZ h1) h2
 subst e; cases h1
structure I2 where
 c:fq
 av:AV
 b:aM
 pu:Bool
instance:Inhabited I2:=⟨⟨.f,.dead,.dead,false⟩⟩
def I2.rS (x:I2):List aM:=
 match x.c with
 | .ms l=>l.map (·.2)
 | _=>[x.b]
def I2.Pu (x:I2):Prop:=x.pu=true→∀ c,aM.own c∈x.rS→∀ (q:Nat) (h:q < c.length) (κ:Nat),bq κ c[q]
def sR:ay→List (Nat × aM)→ay
 | H,[]=>H
 | H,p :: l=>aE (sR H l) p.1 p.2
def Hh (j:Nat):List (Nat × aM)→aM
 | []=>.dead
 | p :: l=>if p.1=j then p.2 else Hh j l
theorem gI:∀ (l:List (Nat × aM)) (H:ay),(sR H l).length=H.length
 | [],H=>rfl
 | p :: l,H=>by rw [sR,aB,gI l H]
theorem mh (H:ay) (j:Nat):∀ l:List (Nat × aM),aq (sR H l) j=if (l.any fun p=>p.1 == j)=true∧j < H.length then Hh j l else aq H j
 | []=>by simp [sR]
 | p :: l=>by
  rw [sR,aU,gI,mh H j l]
  simp only [List.any_cons,Bool.or_eq_true,beq_iff_eq,Hh]
  by_cases h:p.1=j
  ·subst h
   by_cases hl:p.1 < H.length
   ·rw [if_pos ⟨rfl,hl⟩,if_pos ⟨.inl rfl,hl⟩,if_pos rfl]
   rw [if_neg (fun hh=>hl hh.2),if_neg (fun hh=>hl hh.2),if_neg (fun hh=>hl hh.2)]
  rw [if_neg (fun hh=>h hh.1.symm),if_neg h]
  by_cases h2:(l.any fun p=>p.1 == j)=true∧j < H.length
  ·rw [if_pos h2,if_pos ⟨.inr h2.1,h2.2⟩]
  rw [if_neg h2,if_neg (fun hh=>h2 ⟨hh.1.resolve_left h,hh.2⟩)]
theorem xW {j:Nat} : ∀ {l:List (Nat × aM)},Hh j l = .dead∨∃ p∈l,Hh j l=p.2
 | []=>.inl rfl
 | p :: l=>by
  simp only [Hh]
  by_cases h:p.1=j
  ·rw [if_pos h]; exact .inr ⟨p,by simp,rfl⟩
  rw [if_neg h]
  rcases xW (l:=l) with h | ⟨q,hq,e⟩
  ·exact .inl h
  exact .inr ⟨q,by simp [hq],e⟩
def mE (x:I2) (H:ay):ay:=
 match x.c with
 | .ms l=>sR H l
 | .st k=>aE H k x.b
 | .nw k=>aE H k x.b
 | .ap k k'=>aE (aE H k .dead) k' x.b
 | _=>H
def kG (x:I2) (H:ay):ay:=
 match x.c with
 | .ms l=>sR H l
 | .st k=>aE H k x.b
 | .nw _=>H++[x.b]
 | .ap k _=>aE H k .dead++[x.b]
 | _=>H
def wv (x:I2) (j:Nat):aM:=
 match x.c with
 | .ap _ k'=>if k' = j then x.b else .dead
 | .ms l=>Hh j l
 | _=>x.b
theorem xY (x:I2) (j:Nat):wv x j = .dead∨wv x j∈x.rS:=by
 unfold wv I2.rS
 cases x.c with
 | ap k k' =>
  simp only
  split
  ·exact .inr (by simp)
  exact .inl rfl
 | ms l =>
  simp only
  rcases xW (j:=j) (l:=l) with h | ⟨p,hp,e⟩
  ·exact .inl h
  exact .inr (by rw [e]; exact List.mem_map.2 ⟨p,hp,rfl⟩)
 | _=>exact .inr (by simp)
theorem u5 (x:I2) (H:ay):(mE x H).length=H.length:=by
 unfold mE; split<;>simp [aB,gI]
theorem q5 (x:I2) (H:ay) (j:Nat):aq (mE x H) j=if x.c.lF j=true∧j < H.length then wv x j else aq H j:=by
 obtain ⟨c,av,b,pu⟩:=x
 cases c with
 | f=>simp [mE,fq.lF]
 | ms l=>simp only [mE,wv,fq.lF]; exact mh H j l
 | ld k=>simp [mE,fq.lF]
 | st k =>
  simp only [mE,wv,fq.lF,beq_iff_eq]
  rw [aU]
  by_cases h:j=k
  ·subst h; simp
  rw [if_neg (fun hh=>h hh.1),if_neg (fun hh=>h hh.1.symm)]
 | nw k =>
  simp only [mE,wv,fq.lF,beq_iff_eq]
  rw [aU]
  by_cases h:j=k
  ·subst h; simp
  rw [if_neg (fun hh=>h hh.1),if_neg (fun hh=>h hh.1.symm)]
 | ap k k' =>
  simp only [mE,wv,fq.lF,Bool.or_eq_true,beq_iff_eq]
  rw [aU,aB,aU]
  by_cases h:j=k'
  ·subst h
   by_cases hl:j < H.length
   ·rw [if_pos ⟨rfl,hl⟩,if_pos ⟨.inr rfl,hl⟩,if_pos rfl]
   rw [if_neg (fun hh=>hl hh.2),if_neg (show ¬ (j=k∧k < H.length) from fun hh=>hl (by rw [hh.1]; exact hh.2)),if_neg (show ¬ ((k=j∨j=j)∧j < H.length) from fun hh=>hl hh.2)]
  rw [if_neg (fun hh=>h hh.1)]
  by_cases h2:j=k
  ·subst h2
   simp [Ne.symm h]
  rw [if_neg (fun hh=>h2 hh.1),if_neg (fun hh=>by rcases hh.1 with e | e; exact h2 e.symm; exact h e.symm)]
def uf (P:Program) (o:Oper) (s:St) (x:I2):Prop:=
 match x.c with
 | .ms l=>((∀ p∈l,p.1 < s.H.length)∧∀ p∈l,∀ i j,p.2 ≠ .dA i j)∧∀ s2:St,s2.n=s.n→fB o s s2→(∀ p∈l,p.1 < s2.H.length∧aq s2.H p.1=aq s.H p.1)→fj P o s2 x.av (sR s2.H l)
 | .f=>∀ s2:St,s2.n=s.n→fB o s s2→fj P o s2 x.av s2.H
 | .ld k=>k < s.H.length∧∀ s2:St,s2.n=s.n→fB o s s2→aq s2.H k=aq s.H k→fj P o s2 x.av s2.H
 | .st k=>k < s.H.length∧∀ s2:St,s2.n=s.n→fB o s s2→aq s2.H k=aq s.H k→fj P o s2 x.av (aE s2.H k x.b)
 | .nw k=>k=s.H.length∧∀ s2:St,s2.n=s.n→fB o s s2→s2.H[k]? = some .dead→(∀ t,bq k (s2.get t))→(∀ (j:Nat) (c:List AV),s2.H[j]? = some (aM.own c)→∀ (i:Nat) (h:i < c.length),bq k c[i])→(∀ (b i j:Nat),s2.H[b]? = some (aM.dA i j)→j ≠ k)→fj P o s2 x.av (aE s2.H k x.b)
 | .ap q k=>(q < s.H.length∧k=s.H.length)∧∀ s2:St,s2.n=s.n→fB o s s2→aq s2.H q=aq s.H q→s2.H[k]? = some .dead→(∀ t,bq k (s2.get t))→(∀ (j:Nat) (c:List AV),s2.H[j]? = some (aM.own c)→∀ (i:Nat) (h:i < c.length),bq k c[i])→(∀ (b i j:Nat),s2.H[b]? = some (aM.dA i j)→j ≠ k)→fj P o s2 x.av (aE (aE s2.H q .dead) k x.b)
inductive uh (P:Program) (all:Array Oper):List Oper→List I2→St→St→Prop
 | nil (s:St):uh P all [] [] s s
 | skip {o:Oper} {r:List Oper} {xs:List I2} {s s' : St} (hg:bz all s o=some false) (hd:∀ t,o.dst=some t→t < s.n) (hr:uh P all r xs (s.put o.dst (.p (.tup []))) s'):uh P all (o :: r) (⟨.f,.p (.tup []),.dead,false⟩ :: xs) s s'
 | op {o:Oper} {r:List Oper} {x:I2} {xs:List I2} {s s' : St} (hg:bz all s o=some true) (hd:∀ t,o.dst=some t→t < s.n) (h:uf P o s x) (hp:x.Pu) (hr:uh P all r xs (({ s with H:=kG x s.H } : St).put o.dst x.av) s'):uh P all (o :: r) (x :: xs) s s'
section
variable {P:Program} {ops:Array Oper} {I:Nat→I2} {s:St}
def cS (ops:Array Oper) (I:Nat→I2) (s:St):Nat→St
 | 0=>s
 | k + 1=>({ cS ops I s k with H:=kG (I k) (cS ops I s k).H } : St).put (bS ops k).dst (I k).av
structure E8 (P:Program) (ops:Array Oper) (I:Nat→I2) (s:St) (j:Nat) (o:Oper):Prop where
 pu:(I j).Pu
 dst:∀ t,o.dst=some t→t < s.n
 how:(bz ops (cS ops I s j) o=some false∧I j=⟨.f,.p (.tup []),.dead,false⟩)∨(bz ops (cS ops I s j) o=some true∧uf P o (cS ops I s j) (I j))
theorem Ep:∀ k,(cS ops I s k).n=s.n
 | 0=>rfl
 | k + 1=>by simp only [cS]; rw [St.kv]; exact Ep k
theorem vo {s' : St} : ∀ (l:List Oper) (xs:List I2) (k:Nat),(∀ i,l[i]? = ops[k + i]?)→(∀ i x,xs[i]? = some x→I (k + i)=x)→k + l.length=ops.size →
  uh P ops l xs (cS ops I s k) s'→(∀ i o,k≤i→ops[i]? = some o→E8 P ops I s i o)∧s' = cS ops I s ops.size
 | [],xs,k,hl,hx,hk,hr=>by
  cases hr
  simp at hk
  subst hk
  refine ⟨fun i o hi ho=>?_,rfl⟩
  have:=(Array.getElem?_eq_some_iff.1 ho).1
  omega
 | o :: r,xs,k,hl,hx,hk,hr=>by
  have ho:ops[k]? = some o:=by have:=hl 0; simpa using this.symm
  have hod:bS ops k=o:=eS ho
  have hl' : ∀ i,r[i]? = ops[k + 1 + i]?:=fun i=>by have:=hl (i + 1); simp only [List.getElem?_cons_succ] at this; rw [this]; congr 1; omega
  have hn:=Ep (ops:=ops) (I:=I) (s:=s) k
  cases hr with
  | skip hg hd hr =>
   rename_i xs
   have hIk:I k=⟨.f,.p (.tup []),.dead,false⟩:=by have:=hx 0 _ rfl; simpa using this
   have e:cS ops I s (k + 1)=(cS ops I s k).put o.dst (.p (.tup [])):=by simp only [cS]; rw [hIk,hod]; rfl
   rw [← e] at hr
   obtain ⟨g1,g2⟩:=vo r xs (k + 1) hl' (fun i x h=>by have:=hx (i + 1) x (by simpa using h); rw [← this]; congr 1; omega) (by simp at hk; omega) hr
   refine ⟨fun i o' hi ho'=>?_,g2⟩
   by_cases hik:i=k
   ·subst hik
    rw [ho] at ho'; cases ho'
    exact ⟨by rw [hIk]; intro h; (cases h),fun t ht=>by rw [← hn]; exact hd t ht,.inl ⟨hg,hIk⟩⟩
   exact g1 i o' (by omega) ho'
  | op hg hd h hpu hr =>
   rename_i x xs
   have hIk:I k=x:=by have:=hx 0 _ rfl; simpa using this
   have e:cS ops I s (k + 1)=({ cS ops I s k with H:=kG x (cS ops I s k).H } : St).put o.dst x.av:=by simp only [cS]; rw [hIk,hod]
   rw [← e] at hr
   obtain ⟨g1,g2⟩:=vo r xs (k + 1) hl' (fun i x h=>by have:=hx (i + 1) x (by simpa using h); rw [← this]; congr 1; omega) (by simp at hk; omega) hr
   refine ⟨fun i o' hi ho'=>?_,g2⟩
   by_cases hik:i=k
   ·subst hik
    rw [ho] at ho'; cases ho'
    exact ⟨by rw [hIk]; exact hpu,fun t ht=>by rw [← hn]; exact hd t ht,.inr ⟨hg,by rw [hIk]; exact h⟩⟩
   exact g1 i o' (by omega) ho'
def tD (ops:Array Oper) (I:Nat→I2) (s:St) (L:Nat) (D:Nat→Bool):Nat→St
 | 0=>{ s with H:=s.H++List.replicate L .dead }
 | k + 1=>if D k then ({ tD ops I s L D k with H:=mE (I k) (tD ops I s L D k).H } : St).put (bS ops k).dst (I k).av else tD ops I s L D k
variable {L:Nat}
theorem vt (D:Nat→Bool):∀ k,(tD ops I s L D k).n=s.n
 | 0=>rfl
 | k + 1=>by
  simp only [tD]
  split
  ·rw [St.kv]; exact vt D k
  exact vt D k
theorem kL (D:Nat→Bool):∀ k,(tD ops I s L D k).H.length=s.H.length + L
 | 0=>by simp [tD]
 | k + 1=>by
  simp only [tD]
  split
  ·rw [St.fX,u5]; exact kL D k
  exact kL D k
theorem iS (D:Nat→Bool) (k t:Nat):(tD ops I s L D (k + 1)).get t=if D k=true∧(bS ops k).dst=some t then (I k).av else (tD ops I s L D k).get t:=by
 simp only [tD]
 by_cases h:D k=true
 ·rw [if_pos h,eX]
  by_cases hd:(bS ops k).dst=some t
  ·have hr:D k=true∧(bS ops k).dst=some t:=⟨h,hd⟩
   rw [if_pos hd,if_pos hr]
  have hr:¬ (D k=true∧(bS ops k).dst=some t):=fun hh=>hd hh.2
  rw [if_neg hd,if_neg hr]; rfl
 have hr:¬ (D k=true∧(bS ops k).dst=some t):=fun hh=>h hh.1
 rw [if_neg h,if_neg hr]
theorem eW (D:Nat→Bool) (k b:Nat):aq (tD ops I s L D (k + 1)).H b=if D k=true∧(I k).c.lF b=true∧b < s.H.length + L then wv (I k) b else aq (tD ops I s L D k).H b:=by
 simp only [tD]
 by_cases h:D k=true
 ·rw [if_pos h,St.fX]
  simp only
  rw [q5,kL]
  by_cases hd:(I k).c.lF b=true∧b < s.H.length + L
  ·rw [if_pos hd,if_pos ⟨h,hd⟩]
  rw [if_neg hd,if_neg (fun hh=>hd hh.2)]
 rw [if_neg h,if_neg (fun hh=>h hh.1)]
theorem nL (D : Nat → Bool) (t : Nat) : ∀ k n, k ≤ n → (∀ i, k ≤ i → i < n → D i = true → (bS ops i).dst ≠ some t) → (tD ops I s L D n).get t = (tD ops I s L D k).get t := by
  intro k n hkn h
  induction n with
  | zero => obtain rfl : k = 0 := by omega
            rfl
  | succ n ih =>
    by_cases hk : k = n + 1
    · rw [hk]
    · rw [iS, if_neg (fun hh => h n (by omega) (by omega) hh.1 hh.2)]
      exact ih (by omega) fun i h1 h2 => h i h1 (by omega)
theorem lG (D : Nat → Bool) (b : Nat) : ∀ k n, k ≤ n → (∀ i, k ≤ i → i < n → D i = true → (I i).c.lF b = false) → aq (tD ops I s L D n).H b = aq (tD ops I s L D k).H b := by
  intro k n hkn h
  induction n with
  | zero => obtain rfl : k = 0 := by omega
            rfl
  | succ n ih =>
    by_cases hk : k = n + 1
    · rw [hk]
    · rw [eW, if_neg (fun hh => by have := h n (by omega) (by omega) hh.1; rw [this] at hh; simp at hh)]
      exact ih (by omega) fun i h1 h2 => h i h1 (by omega)
theorem jx (D D' : Nat→Bool) (t:Nat):∀ k,(∀ i,i < k→(bS ops i).dst=some t→D i=D' i)→(tD ops I s L D k).get t=(tD ops I s L D' k).get t:=by
 intro k h
 induction k with
 | zero=>rfl
 | succ k ih =>
  rw [iS,iS,ih fun i hi=>h i (by omega)]
  by_cases hd:(bS ops k).dst=some t
  ·rw [h k (by omega) hd]
  rw [if_neg (fun hh=>hd hh.2),if_neg (fun hh=>hd hh.2)]
theorem iG (D D' : Nat→Bool) (b:Nat):∀ k,(∀ i,i < k→(I i).c.lF b=true→D i=D' i)→aq (tD ops I s L D k).H b=aq (tD ops I s L D' k).H b:=by
 intro k h
 induction k with
 | zero=>rfl
 | succ k ih =>
  rw [eW,eW,ih fun i hi=>h i (by omega)]
  by_cases hd:(I k).c.lF b=true
  ·rw [h k (by omega) hd]
  rw [if_neg (fun hh=>hd hh.2.1),if_neg (fun hh=>hd hh.2.1)]
def Fits (I:Nat→I2) (s:St) (ops:Array Oper) (n:Nat):Prop:=∀ k,k < n→match (I k).c with
 | .ld j=>j < (cS ops I s k).H.length
 | .st j=>j < (cS ops I s k).H.length
 | .nw j=>j=(cS ops I s k).H.length
 | .ap i j=>i < (cS ops I s k).H.length∧j=(cS ops I s k).H.length
 | .ms l=>∀ p∈l,p.1 < (cS ops I s k).H.length
 | .f=>True
theorem Ak (x:I2) (H:ay):H.length≤(kG x H).length:=by
 unfold kG; split<;>simp [aB,gI]
theorem cP : ∀ {k n : Nat}, k ≤ n → (cS ops I s k).H.length ≤ (cS ops I s n).H.length := by
  intro k n h
  induction n with
  | zero => obtain rfl : k = 0 := by omega
            exact Nat.le_refl _
  | succ n ih =>
    by_cases hk : k = n + 1
    · rw [hk]; exact Nat.le_refl _
    · refine Nat.le_trans (ih (by omega)) ?_
      simp only [cS]
      rw [St.fX]
      exact Ak _ _
theorem gx:∀ {H:ay} {j:Nat},H.length≤j→aq H j = .dead
 | [],j,_=>by cases j<;>rfl
 | x :: r,0,h=>by simp at h
 | x :: r,j + 1,h=>gx (H:=r) (by simpa using h)
theorem Gi {n:Nat} (hf:Fits I s ops n) (hL:(cS ops I s n).H.length=s.H.length + L):∀ k,k≤n→(∀ t,(tD ops I s L (fun _=>true) k).get t=(cS ops I s k).get t)∧∀ b,aq (tD ops I s L (fun _=>true) k).H b=aq (cS ops I s k).H b:=by
 intro k
 induction k with
 | zero =>
  intro _
  refine ⟨fun t=>rfl,fun b=>?_⟩
  simp only [tD,cS]
  by_cases hb:b < s.H.length
  ·rw [aF hb]
  rw [a8 (by omega),ln,gx (by omega)]
 | succ k ih =>
  intro hk
  obtain ⟨ih1,ih2⟩:=ih (by omega)
  have hle:=cP (ops:=ops) (I:=I) (s:=s) (show k + 1≤n from hk)
  have hlen:(kG (I k) (cS ops I s k).H).length≤s.H.length + L:=by
   rw [← hL]
   refine Nat.le_trans ?_ hle
   simp only [cS]; rw [St.fX]; exact Nat.le_refl _
  refine ⟨fun t=>?_,fun b=>?_⟩
  ·rw [iS]
   simp only [cS]
   rw [eX,ih1]
   by_cases hd:(bS ops k).dst=some t
   ·rw [if_pos ⟨trivial,hd⟩,if_pos hd]
   rw [if_neg (fun hh=>hd hh.2),if_neg hd]; rfl
  rw [eW,ih2]
  simp only [cS]
  rw [St.fX]
  simp only
  have hfk:=hf k (by omega)
  unfold kG at hlen ⊢
  unfold wv
  cases hc:(I k).c with
  | f=>simp [fq.lF]
  | ld j=>simp [fq.lF]
  | ms l =>
   rw [hc] at hfk
   have hjj:=cP (ops:=ops) (I:=I) (s:=s) (show k≤n by omega)
   simp only [fq.lF,true_and]
   rw [mh]
   by_cases hb:(l.any fun p=>p.1 == b)=true
   ·obtain ⟨p,hp,e⟩:=List.any_eq_true.1 hb
    have e:p.1=b:=by simpa using e
    have:=hfk p hp
    rw [if_pos ⟨hb,by omega⟩,if_pos ⟨hb,by omega⟩]
   rw [if_neg (fun hh=>hb hh.1),if_neg (fun hh=>hb hh.1)]
  | st j =>
   rw [hc] at hfk
   have hjj:=cP (ops:=ops) (I:=I) (s:=s) (show k≤n by omega)
   simp only [fq.lF,beq_iff_eq,true_and]
   rw [aU]
   by_cases hb:b=j
   ·subst hb
    rw [if_pos ⟨rfl,by omega⟩,if_pos ⟨rfl,hfk⟩]
   rw [if_neg (fun hh=>hb hh.1.symm),if_neg (fun hh=>hb hh.1)]
  | nw j =>
   rw [hc] at hfk hlen
   simp only [List.length_append,List.length_singleton] at hlen
   simp only [fq.lF,beq_iff_eq,true_and]
   by_cases hb:b=j
   ·subst hb
    rw [if_pos ⟨rfl,by omega⟩,a8 (by omega),hfk,Nat.sub_self]; rfl
   rw [if_neg (fun hh=>hb hh.1.symm)]
   by_cases hlt:b < (cS ops I s k).H.length
   ·rw [aF hlt]
   rw [gx (by omega),gx (by simp; omega)]
  | ap i j =>
   rw [hc] at hfk hlen
   obtain ⟨hf1,hf2⟩:=hfk
   simp only [List.length_append,List.length_singleton,aB] at hlen
   have hjj:=cP (ops:=ops) (I:=I) (s:=s) (show k≤n by omega)
   simp only [fq.lF,Bool.or_eq_true,beq_iff_eq,true_and]
   by_cases hb:b=j
   ·subst hb
    rw [if_pos ⟨.inr rfl,by omega⟩,if_pos rfl,a8 (by rw [aB]; omega),aB,hf2,Nat.sub_self]; rfl
   by_cases hb2:b=i
   ·subst hb2
    rw [if_pos ⟨.inl rfl,by omega⟩,if_neg (Ne.symm hb),aF (by rw [aB]; exact hf1),aU,if_pos ⟨rfl,hf1⟩]
   rw [if_neg (fun hh=>by rcases hh.1 with e | e; exact hb2 e.symm; exact hb e.symm)]
   by_cases hlt:b < (cS ops I s k).H.length
   ·rw [aF (by rw [aB]; exact hlt),aU,if_neg (fun hh=>hb2 hh.1)]
   rw [gx (by omega),gx (by simp [aB]; omega)]
def kz (ops:Array Oper) (I:Nat→I2) (i j:Nat):Bool:=(bS ops i).apart ops (bS ops j) && !nC (I i).c (I j).c
def IQ (κ:Nat):aM→Bool
 | .own c=>c.all (Jb κ)
 | _=>true
def kD:aM→Bool
 | .dA _ _=>false
 | _=>true
theorem nD {b:aM} (h:kD b=true) (i j:Nat):b ≠ .dA i j:=by intro e; subst e; cases h
def I2.na (x:I2):Bool:=
 match x.c with
 | .ms _=>true
 | _=>kD x.b
def lL (ops : Array Oper) (xs : List I2) : Bool :=
  (List.range ops.size).all fun j =>
    ((bS ops j).after.toList.all fun e => !Region.binds .any e || e.on < j) &&
    ((List.range j).all fun i => kz ops (fun i => xs.getD i default) i j || ((dA ops).getD j 0).testBit i) &&
    (match (xs.getD j default).c.mk with
     | some κ => (List.range ops.size).all fun i => i == j || ((dA ops).getD i 0).testBit j || (Jb κ (xs.getD i default).av && ((xs.getD i default).pu || (xs.getD i default).rS.all (IQ κ)))
     | none => true) && (xs.getD j default).na
theorem sF {xs:List I2} (h:lL ops xs=true):(∀ j o,ops[j]? = some o→∀ e∈o.after.toList,Region.binds .any e=true→e.on < j) ∧
  (∀ i j,i < j→j < ops.size→kz ops (fun i=>xs.getD i default) i j=false→((dA ops).getD j 0).testBit i=true) ∧
  (∀ j κ,j < ops.size→(xs.getD j default).c.mk=some κ→∀ i,i < ops.size→i ≠ j→((dA ops).getD i 0).testBit j=false→bq κ (xs.getD i default).av∧((xs.getD i default).pu=false→∀ c,aM.own c∈(xs.getD i default).rS→∀ (q:Nat) (h:q < c.length),bq κ c[q])) ∧
  (∀ j,j < ops.size→(xs.getD j default).na=true):=by
 unfold lL at h
 rw [List.all_eq_true] at h
 refine ⟨?_,?_,?_,?_⟩
 rotate_left 3
 ·intro j hj
  have:=h j (by simpa using hj)
  rw [Bool.and_eq_true] at this
  exact this.2
 ·intro j o ho e he hb
  have hj:=(Array.getElem?_eq_some_iff.1 ho).1
  have:=h j (by simpa using hj)
  rw [Bool.and_eq_true,Bool.and_eq_true,Bool.and_eq_true] at this
  have h1:=(List.all_eq_true.1 this.1.1.1) e (by rw [eS ho]; exact he)
  rw [hb] at h1
  simpa using h1
 ·intro i j hij hj ha
  have:=h j (by simpa using hj)
  rw [Bool.and_eq_true,Bool.and_eq_true,Bool.and_eq_true] at this
  have h1:=(List.all_eq_true.1 this.1.1.2) i (by simpa using hij)
  rw [ha,Bool.false_or] at h1
  exact h1
 intro j κ hj hc i hi hij hb
 have:=h j (by simpa using hj)
 rw [Bool.and_eq_true,Bool.and_eq_true,Bool.and_eq_true] at this
 have h1:=this.1.2
 rw [hc] at h1
 have h2:=(List.all_eq_true.1 h1) i (by simpa using hi)
 rw [hb] at h2
 have hij' : (i == j)=false:=by simpa using hij
 rw [hij',Bool.false_or,Bool.false_or,Bool.and_eq_true] at h2
 refine ⟨uo h2.1,fun hpu c hc' q hq=>?_⟩
 have h3:=h2.2
 rw [hpu,Bool.false_or] at h3
 exact uo ((List.all_eq_true.1 ((List.all_eq_true.1 h3) _ hc')) _ (List.getElem_mem hq))
end
open Go.RowKit
theorem nA:∀ {H:ay} {k:Nat} {b:aM},k < H.length→aq H k=b→H[k]? = some b
 | x :: r,0,b,_,h=>by simp only [aq] at h; simp [h]
 | x :: r,k + 1,b,hk,h=>by simpa using nA (H:=r) (by simpa using hk) h
 | [],k,b,hk,_=>by simp at hk
theorem jv:∀ {H:ay} {k:Nat} {b:aM},H[k]? = some b→aq H k=b
 | x :: r,0,b,h=>by simpa [aq] using h
 | x :: r,k + 1,b,h=>jv (H:=r) (by simpa using h)
 | [],k,b,h=>by simp at h
section
variable {P:Program} {ops:Array Oper}
theorem tQ {Q:Exit→Act→World→Prop} {C:Ctx} {ds:List Deferred} {s s' : St} {xs:List I2} (hok:lL ops xs=true) (hrun:uh P ops ops.toList xs s s') {m:Map} {a:Act} {w:World} (R:Rel C m s a.tmps w) (hd:a.defers=ds)
  (hQ:∀ m' (a' : Act) w',Rel C m' s' a'.tmps w'→a'.defers=ds→Q .normal a' w'):nZ P .any ops Q ops.size (Array.replicate ops.size false) a w:=by
 obtain ⟨hedge,hconf,hnr,hna⟩:=sF hok
 obtain ⟨I,hI⟩:∃ I:Nat→I2,I=fun i=>xs.getD i default:=⟨_,rfl⟩
 rw [← hI] at hconf
 have hna0:∀ j,j < ops.size→(I j).na=true:=by rw [hI]; exact hna
 have hnr0:∀ j κ,j < ops.size→(I j).c.mk=some κ→∀ i,i < ops.size→i ≠ j→((dA ops).getD i 0).testBit j=false→bq κ (I i).av∧((I i).pu=false→∀ c,aM.own c∈(I i).rS→∀ (q:Nat) (h:q < c.length),bq κ c[q]):=by
  rw [hI]; exact hnr
 obtain ⟨hfact,rfl⟩:=vo (P:=P) (ops:=ops) (I:=I) (s:=s) (s':=s') ops.toList xs 0 (fun i=>by simp) (fun i x h=>by rw [hI]; simp [List.getD,h]) (by simp) hrun
 have hfact:∀ i o,ops[i]? = some o→E8 P ops I s i o:=fun i o=>hfact i o (Nat.zero_le _)
 have hna:∀ j,j < ops.size→∀ i k,aM.dA i k ∉ (I j).rS:=by
  intro j hj i k hm
  have h0:=hna0 j hj
  obtain ⟨_,_,hh⟩:=hfact j ops[j] (Array.getElem?_eq_getElem hj)
  unfold I2.rS at hm
  unfold I2.na at h0
  rcases hh with ⟨_,e⟩ | ⟨_,h⟩
  ·rw [e] at hm; simp at hm
  unfold uf at h
  split at hm
  ·rename_i l hc
   rw [hc] at h
   obtain ⟨p,hp,e⟩:=List.mem_map.1 hm
   exact h.1.2 p hp i k e
  split at h0
  ·rename_i hneg _ _ hc2
   exact absurd hc2 (hneg _)
  rw [List.mem_singleton] at hm
  exact nD h0 i k hm.symm
 have hnr:∀ j κ,j < ops.size→(I j).c.mk=some κ→∀ i,i < ops.size→i ≠ j→((dA ops).getD i 0).testBit j=false→bq κ (I i).av∧∀ c,aM.own c∈(I i).rS→∀ (q:Nat) (h:q < c.length),bq κ c[q]:=by
  intro j κ hj hc i hi hij hb
  obtain ⟨g1,g2⟩:=hnr0 j κ hj hc i hi hij hb
  refine ⟨g1,fun c hc' q hq=>?_⟩
  cases hpu:(I i).pu with
  | false=>exact g2 hpu c hc' q hq
  | true=>exact (hfact i ops[i] (Array.getElem?_eq_getElem hi)).pu hpu c hc' q hq κ
 have hfits:Fits I s ops ops.size:=by
  intro k hk
  obtain ⟨_,_,hh⟩:=hfact k ops[k] (Array.getElem?_eq_getElem hk)
  rcases hh with ⟨_,e⟩ | ⟨_,h⟩
  ·rw [e]; trivial
  unfold uf at h
  cases hc:(I k).c with
  | f=>trivial
  | ld j=>rw [hc] at h; exact h.1
  | ms l=>rw [hc] at h; exact h.1.1
  | st j=>rw [hc] at h; exact h.1
  | nw j=>rw [hc] at h; exact h.1
  | ap i j=>rw [hc] at h; exact h.1
 obtain ⟨L,hL⟩:∃ L,(cS ops I s ops.size).H.length=s.H.length + L:=⟨(cS ops I s ops.size).H.length - s.H.length,by
  have:=cP (ops:=ops) (I:=I) (s:=s) (Nat.zero_le ops.size)
  simp only [cS] at this; omega⟩
 have hall:=Gi hfits hL
 have hκ0:∀ j κ,j < ops.size→(I j).c.mk=some κ→s.H.length≤κ∧κ < s.H.length + L:=by
  intro j κ hj hc
  have h1:=hfits j hj
  have h2:=cP (ops:=ops) (I:=I) (s:=s) (Nat.zero_le j)
  have h3:=cP (ops:=ops) (I:=I) (s:=s) (show j + 1≤ops.size from hj)
  simp only [cS] at h2
  cases hcc:(I j).c with
  | nw k =>
   rw [hcc] at h1 hc
   simp only [fq.mk,Option.some.injEq] at hc
   simp only at h1
   have h4:(cS ops I s (j + 1)).H.length=(cS ops I s j).H.length + 1:=by
    simp only [cS]; rw [St.fX]; simp only [kG,hcc]; simp
   omega
  | ap q k =>
   rw [hcc] at h1 hc
   simp only [fq.mk,Option.some.injEq] at hc
   simp only at h1
   have h4:(cS ops I s (j + 1)).H.length=(cS ops I s j).H.length + 1:=by
    simp only [cS]; rw [St.fX]; simp only [kG,hcc]; simp [aB]
   omega
  | f=>rw [hcc] at hc; simp [fq.mk] at hc
  | ld _=>rw [hcc] at hc; simp [fq.mk] at hc
  | st _=>rw [hcc] at hc; simp [fq.mk] at hc
  | ms _=>rw [hcc] at hc; simp [fq.mk] at hc
 have hs0:∀ κ,s.H.length≤κ→(∀ t,bq κ (s.get t))∧(∀ (j:Nat) (c:List AV),s.H[j]? = some (aM.own c)→∀ (i:Nat) (h:i < c.length),bq κ c[i])∧∀ (b i j:Nat),s.H[b]? = some (aM.dA i j)→j ≠ κ:=by
  intro κ hκ
  refine ⟨fun t=>(R.slot t).uI hκ,fun j c hc i hi=>?_,fun b i j hb e=>by have:=(R.mp.2.2.1 b i j hb).1; omega⟩
  rcases R.blk j c hc with ⟨b1,_⟩ | ⟨l2,cur2,e2,_,_,_,_,_,_,b7⟩
  ·subst b1; simp at hi
  exact (b7 i hi).uI hκ
 have key:∀ (fuel:Nat) (listed:Array Bool) (m:Map) (a:Act) (w:World),listed.size=ops.size→(List.range ops.size).countP (fun i=>!listed.getD i true)=fuel →
   (∀ j o,listed.getD j false=true→ops[j]? = some o→∀ e∈o.after.toList,Region.binds .any e=true→listed.getD e.on false=true) →
   Rel C m (tD ops I s L (fun i=>listed.getD i false) ops.size) a.tmps w→a.defers=ds→nZ P .any ops Q fuel listed a w:=by
  intro fuel
  induction fuel with
  | zero =>
   intro listed m a w hsz hcnt hcl R hd
   have hal:∀ i,i < ops.size→listed.getD i true=true:=by
    intro i hi
    have:=List.countP_eq_zero.1 hcnt i (by simpa using hi)
    simpa using this
   have hal' : ∀ i,i < ops.size→listed.getD i false=true:=by
    intro i hi
    have:=hal i hi
    simp [Array.getD_eq_getD_getElem?,Array.getElem?_eq_getElem (show i < listed.size by omega)] at this ⊢
    exact this
   obtain ⟨a1,a2⟩:=hall ops.size (Nat.le_refl _)
   refine ⟨?_,hQ m a w (R.congr (fun t=>?_) ?_ ?_) hd⟩
   ·unfold Region.ready
    rw [List.filter_eq_nil_iff]
    intro i hi
    have:=hal i (by simpa using hi)
    simp [this]
   ·rw [← a1]
    exact (jx _ _ t _ fun i hi _=>(hal' i hi)).symm
   ·refine ji (by rw [hL,kL]) fun b=>?_
    rw [← a2]
    exact (iG _ _ b _ fun i hi _=>(hal' i hi)).symm
   rw [vt,Ep]
  | succ fuel ih =>
   intro listed m a w hsz hcnt hcl R hd
   refine ⟨fun hnil=>?_,fun j hj=>?_⟩
   ·
    exfalso
    have hex:∃ i,i < ops.size∧listed.getD i true=false:=by
     have:0 < (List.range ops.size).countP (fun i=>!listed.getD i true):=by omega
     obtain ⟨i,hi,h⟩:=List.countP_pos_iff.1 this
     exact ⟨i,by simpa using hi,by simpa using h⟩
    have hmin:∃ i,i < ops.size∧listed.getD i true=false∧∀ k,k < i→listed.getD k true=true:=by
     obtain ⟨i,hi,h⟩:=hex
     induction i using Nat.strongRecOn with
     | _ i ihh =>
      by_cases hall:∀ k,k < i→listed.getD k true=true
      ·exact ⟨i,hi,h,hall⟩
      simp only [Classical.not_forall] at hall
      obtain ⟨k,hk,hkn⟩:=hall
      exact ihh k hk (by omega) (by simpa using hkn)
    obtain ⟨i,hi,hli,hbelow⟩:=hmin
    have hmem:i∈Region.ready .any ops listed:=by
     unfold Region.ready
     rw [List.mem_filter]
     refine ⟨by simpa using hi,?_⟩
     rw [hli,Array.getElem?_eq_getElem hi]
     simp only [Bool.not_false,Bool.true_and,Option.map_some,Option.getD_some]
     rw [Array.all_eq_true_iff_forall_mem]
     intro e he
     by_cases hb:Region.binds .any e=true
     ·have hlt:=hedge i ops[i] (Array.getElem?_eq_getElem hi) e (by simpa using he) hb
      have:=hbelow e.on hlt
      have hlt' : e.on < listed.size:=by omega
      simp [Array.getD_eq_getD_getElem?,Array.getElem?_eq_getElem hlt'] at this ⊢
      simp [this]
     simp [hb]
    rw [hnil] at hmem
    simp at hmem
   unfold Region.ready at hj
   rw [List.mem_filter] at hj
   obtain ⟨hjlt,hj⟩:=hj
   have hjlt:j < ops.size:=by simpa using hjlt
   have hoj:ops[j]? = some ops[j]:=Array.getElem?_eq_getElem hjlt
   generalize ops[j]=o at hoj
   rw [hoj] at hj
   simp only [Option.map_some,Option.getD_some,Bool.and_eq_true,Bool.not_eq_eq_eq_not,Bool.not_true] at hj
   obtain ⟨hnl,hal⟩:=hj
   have hjls:j < listed.size:=by omega
   have hnl' : listed.getD j false=false:=by
    simp [Array.getD_eq_getD_getElem?,Array.getElem?_eq_getElem hjls] at hnl ⊢
    exact hnl
   have hpre:∀ e∈o.after.toList,Region.binds .any e=true→listed.getD e.on false=true:=by
    intro e he hb
    have:=(Array.all_eq_true_iff_forall_mem.1 hal) e (by simpa using he)
    rw [hb] at this
    simpa using this
   have hanc:∀ i,((dA ops).getD j 0).testBit i=true→listed.getD i false=true:=
    sP (D:=fun i=>listed.getD i false=true) hcl j j o (Nat.le_refl _) hoj hpre
   have hanc' : ∀ i,listed.getD i false=true→∀ oi,ops[i]? = some oi→∀ k,((dA ops).getD i 0).testBit k=true→listed.getD k false=true:=
    fun i hi oi hoi=>sP (D:=fun i=>listed.getD i false=true) hcl i i oi (Nat.le_refl _) hoi (hcl i oi hi hoi)
   have hod:bS ops j=o:=eS hoj
   have low:∀ i,i < j→kz ops I i j=false→listed.getD i false=true:=fun i hi ha=>hanc i (hconf i j hi hjlt ha)
   have high:∀ i,j < i→i < ops.size→listed.getD i false=true→kz ops I j i=true:=by
    intro i hi hlt hli
    have hoi:ops[i]? = some ops[i]:=Array.getElem?_eq_getElem hlt
    by_cases ha:kz ops I j i=true
    ·exact ha
    have:=hanc' i hli ops[i] hoi j (hconf j i hi hlt (by simpa using ha))
    rw [this] at hnl'; cases hnl'
   have ap1:∀ {i k:Nat},kz ops I i k=true→(bS ops i).apart ops (bS ops k)=true∧nC (I i).c (I k).c=false:=by
    intro i k h
    unfold kz at h
    simpa using h
   have agree:∀ t,t∈o.looksAt ops→(tD ops I s L (fun i=>listed.getD i false) ops.size).get t=(cS ops I s j).get t:=by
    intro t ht
    rw [← (hall j (by omega)).1,nL _ t j ops.size (by omega) (fun i h1 h2 h3 h4=>?_)]
    ·refine jx _ _ t j fun i hi hdi=>?_
     rw [low i hi ?_]
     rw [Bool.eq_false_iff]
     intro hap
     have:=(ap1 hap).1
     rw [hod] at this
     exact (Oper.apart_spec this).1 t hdi ht
    by_cases hij:i=j
    ·subst hij; rw [hnl'] at h3; cases h3
    have:=(ap1 (high i (by omega) h2 h3)).1
    rw [hod] at this
    exact (Oper.apart_spec this).2.2 t h4 ht
   have agreeH:∀ b,(I j).c.nR b=true→aq (tD ops I s L (fun i=>listed.getD i false) ops.size).H b=aq (cS ops I s j).H b:=by
    intro b hb
    rw [← (hall j (by omega)).2,lG _ b j ops.size (by omega) (fun i h1 h2 h3=>?_)]
    ·refine iG _ _ b j fun i hi hwi=>?_
     rw [low i hi ?_]
     rw [Bool.eq_false_iff]
     intro hap
     exact (kY (ap1 hap).2 b).2 ⟨hwi,hb⟩
    by_cases hij:i=j
    ·subst hij; rw [hnl'] at h3; cases h3
    rw [Bool.eq_false_iff]
    intro hw
    exact (kY (ap1 (high i (by omega) h2 h3)).2 b).1 ⟨hb,hw⟩
   have hlist:∀ i,(listed.setIfInBounds j true).getD i false=if i=j then true else listed.getD i false:=by
    intro i
    simp only [Array.getD_eq_getD_getElem?]
    by_cases hij:i=j
    ·subst hij; rw [Array.getElem?_setIfInBounds_self_of_lt hjls,if_pos rfl]; rfl
    rw [Array.getElem?_setIfInBounds_ne (Ne.symm hij),if_neg hij]
   have insertGet:∀ t,(tD ops I s L (fun i=>(listed.setIfInBounds j true).getD i false) ops.size).get t=if o.dst=some t then (I j).av else (tD ops I s L (fun i=>listed.getD i false) ops.size).get t:=by
    intro t
    have base:∀ k,k≤j→(tD ops I s L (fun i=>(listed.setIfInBounds j true).getD i false) k).get t=(tD ops I s L (fun i=>listed.getD i false) k).get t:=fun k hk =>
     jx _ _ t k fun i hi _=>by rw [hlist,if_neg (by omega)]
    have step:∀ n,j + 1≤n→n≤ops.size→(tD ops I s L (fun i=>(listed.setIfInBounds j true).getD i false) n).get t=if o.dst=some t then (I j).av else (tD ops I s L (fun i=>listed.getD i false) n).get t:=by
     intro n hn hns
     induction n with
     | zero=>omega
     | succ n ihn =>
      by_cases hnj:n=j
      ·subst hnj
       rw [iS,iS,hod,base n (Nat.le_refl _),hlist,if_pos rfl,hnl']
       by_cases hdt:o.dst=some t
       ·simp [hdt]
       simp [hdt]
      rw [iS,iS,ihn (by omega) (by omega),hlist,if_neg hnj]
      by_cases hln:listed.getD n false=true∧(bS ops n).dst=some t
      ·rw [if_pos hln,if_pos hln]
       have hap:=(ap1 (high n (by omega) (by omega) hln.1)).1
       rw [hod] at hap
       by_cases hdt:o.dst=some t
       ·exact absurd hln.2 ((Oper.apart_spec hap).2.1 t hdt)
       rw [if_neg hdt]
      rw [if_neg hln,if_neg hln]
    exact step ops.size (by omega) (Nat.le_refl _)
   have insertH:∀ b,aq (tD ops I s L (fun i=>(listed.setIfInBounds j true).getD i false) ops.size).H b=if (I j).c.lF b=true∧b < s.H.length + L then wv (I j) b else aq (tD ops I s L (fun i=>listed.getD i false) ops.size).H b:=by
    intro b
    have base:∀ k,k≤j→aq (tD ops I s L (fun i=>(listed.setIfInBounds j true).getD i false) k).H b=aq (tD ops I s L (fun i=>listed.getD i false) k).H b:=fun k hk =>
     iG _ _ b k fun i hi _=>by rw [hlist,if_neg (by omega)]
    have step:∀ n,j + 1≤n→n≤ops.size→aq (tD ops I s L (fun i=>(listed.setIfInBounds j true).getD i false) n).H b=if (I j).c.lF b=true∧b < s.H.length + L then wv (I j) b else aq (tD ops I s L (fun i=>listed.getD i false) n).H b:=by
     intro n hn hns
     induction n with
     | zero=>omega
     | succ n ihn =>
      by_cases hnj:n=j
      ·subst hnj
       rw [eW,eW,base n (Nat.le_refl _),hlist,if_pos rfl,hnl']
       by_cases hdt:(I n).c.lF b=true∧b < s.H.length + L
       ·rw [if_pos ⟨rfl,hdt⟩,if_pos hdt]
       rw [if_neg (fun hh=>hdt hh.2),if_neg hdt,if_neg (fun hh=>by cases hh.1)]
      rw [eW,eW,ihn (by omega) (by omega),hlist,if_neg hnj]
      by_cases hln:listed.getD n false=true∧(I n).c.lF b=true∧b < s.H.length + L
      ·rw [if_pos hln,if_pos hln]
       have hap:=(ap1 (high n (by omega) (by omega) hln.1)).2
       by_cases hdt:(I j).c.lF b=true
       ·exact absurd ⟨hdt,fq.rZ hln.2.1⟩ (kY hap b).2
       rw [if_neg (fun hh=>hdt hh.1)]
      rw [if_neg hln,if_neg hln]
    exact step ops.size (by omega) (Nat.le_refl _)
   have hcnt' : (List.range ops.size).countP (fun i=>!(listed.setIfInBounds j true).getD i true)=fuel:=by
    have hsplit:∀ (l:List Nat),l.Nodup→j∈l→l.countP (fun i=>!listed.getD i true)=l.countP (fun i=>!(listed.setIfInBounds j true).getD i true) + 1:=by
     intro l
     induction l with
     | nil=>intro _ h; simp at h
     | cons x r ihl =>
      intro hnd hmem
      have hx:∀ i,i ≠ j→(listed.setIfInBounds j true).getD i true=listed.getD i true:=by
       intro i hi
       simp only [Array.getD_eq_getD_getElem?]
       rw [Array.getElem?_setIfInBounds_ne (Ne.symm hi)]
      rw [List.nodup_cons] at hnd
      by_cases hxj:x=j
      ·subst hxj
       have e1:(listed.setIfInBounds x true).getD x true=true:=by
        simp only [Array.getD_eq_getD_getElem?]
        rw [Array.getElem?_setIfInBounds_self_of_lt hjls]; rfl
       rw [List.countP_cons,List.countP_cons,hnl,e1]
       have:r.countP (fun i=>!listed.getD i true)=r.countP (fun i=>!(listed.setIfInBounds x true).getD i true):=by
        apply List.countP_congr
        intro i hi
        rw [hx i (fun e=>hnd.1 (e ▸ hi))]
       simp only [this,Bool.not_false,Bool.not_true,if_true,Bool.false_eq_true,if_false,Nat.add_zero]
      rw [List.countP_cons,List.countP_cons,hx x hxj,ihl hnd.2 (by rcases List.mem_cons.1 hmem with h | h; exact absurd h.symm hxj; exact h)]
      omega
    have:=hsplit (List.range ops.size) List.nodup_range (by simpa using hjlt)
    omega
   have hcl' : ∀ i oi,(listed.setIfInBounds j true).getD i false=true→ops[i]? = some oi→∀ e∈oi.after.toList,Region.binds .any e=true→(listed.setIfInBounds j true).getD e.on false=true:=by
    intro i oi hi hoi e he hb
    rw [hlist] at hi ⊢
    by_cases hij:i=j
    ·subst hij
     rw [hoj] at hoi; cases hoi
     rw [hpre e he hb]; simp
    rw [if_neg hij] at hi
    rw [hcl i oi hi hoi e he hb]; simp
   have hTlen:(tD ops I s L (fun i=>listed.getD i false) ops.size).H.length=s.H.length + L:=kL _ _
   have next:∀ (m' : Map) (a' : Act) (w' : World),(∃ s2:St,Rel C m' s2 a'.tmps w'∧(∀ t,s2.get t=if o.dst=some t then (I j).av else (tD ops I s L (fun i=>listed.getD i false) ops.size).get t) ∧
      (s2.H=mE (I j) (tD ops I s L (fun i=>listed.getD i false) ops.size).H)∧s2.n=s.n)→a'.defers=ds→nZ P .any ops Q fuel (listed.setIfInBounds j true) a' w':=by
    rintro m' a' w' ⟨s2,R2,e1,e2,e3⟩ hd'
    refine ih _ m' a' w' (by simpa using hsz) hcnt' hcl' (R2.congr (fun t=>?_) ?_ ?_) hd'
    ·rw [insertGet,e1]
    ·rw [e2]
     refine ji (by rw [kL,u5,hTlen]) fun b=>?_
     rw [insertH,q5,hTlen]
    rw [vt,e3]
   have hgd:∀ b,bz ops (cS ops I s j) o=some b→bz ops (tD ops I s L (fun i=>listed.getD i false) ops.size) o=some b:=by
    intro b h
    unfold bz at h ⊢
    split at h
    ·exact h
    rename_i g want e
    split at h
    ·rename_i d hdd
     have:(tD ops I s L (fun i=>listed.getD i false) ops.size).get d=(cS ops I s j).get d:=agree d (by
      unfold Oper.looksAt
      rw [e]
      simp [hdd])
     rw [this]
     exact h
    cases h
   have hsn:(tD ops I s L (fun i=>listed.getD i false) ops.size).n=s.n:=vt _ _
   obtain ⟨_,fd,fh⟩:=hfact j o hoj
   unfold Je
   rw [hoj]
   simp only
   rcases fh with ⟨hg,hIj⟩ | ⟨hg,hloc⟩
   ·rw [c8 (P:=P) R (hgd _ hg)]
    simp only [Bool.false_eq_true,if_false]
    refine next m _ w ⟨_,R.put (fun t ht=>by rw [hsn]; exact fd t ht) (.p _ _ pf),fun t=>?_,?_,?_⟩ (by rw [put_defers]; exact hd)
    ·rw [eX,hIj]
    ·rw [St.fX,hIj]; rfl
    rw [St.kv,hsn]
   rw [c8 (P:=P) R (hgd _ hg)]
   simp only [if_true]
   left
   have hag:fB o (cS ops I s j) (tD ops I s L (fun i=>listed.getD i false) ops.size):=by
    intro x hx
    cases x with
    | tmp t =>
     simp only [St.ev]
     refine agree t ?_
     unfold Oper.looksAt
     rw [List.mem_append]
     left
     rw [List.mem_filterMap]
     exact ⟨.tmp t,by simpa using hx,rfl⟩
    | _=>rfl
   have hn2:(tD ops I s L (fun i=>listed.getD i false) ops.size).n=(cS ops I s j).n:=by rw [vt,Ep]
   have fin:fj P o (tD ops I s L (fun i=>listed.getD i false) ops.size) (I j).av (mE (I j) (tD ops I s L (fun i=>listed.getD i false) ops.size).H) →
     Cv P o a w (nZ P .any ops Q fuel (listed.setIfInBounds j true)) Q:=by
    intro hdo
    refine hdo C m a w _ Q R fun v m' w' R' hv=>?_
    refine next m' _ w' ⟨_,R'.put (fun t ht=>by simp only; rw [hsn]; exact fd t ht) hv,fun t=>?_,?_,?_⟩ (by rw [put_defers]; exact hd)
    ·rw [eX]; rfl
    ·rw [St.fX]
    rw [St.kv]; exact hsn
   have fresh:∀ k,(I j).c.mk=some k→(I j).c.nR k=true→(cS ops I s j).H.length=k→(tD ops I s L (fun i=>listed.getD i false) ops.size).H[k]? = some .dead∧(∀ t,bq k ((tD ops I s L (fun i=>listed.getD i false) ops.size).get t))∧(∀ (b:Nat) (c:List AV),(tD ops I s L (fun i=>listed.getD i false) ops.size).H[b]? = some (aM.own c)→∀ (q:Nat) (h:q < c.length),bq k c[q])∧∀ (b i j' : Nat),(tD ops I s L (fun i=>listed.getD i false) ops.size).H[b]? = some (aM.dA i j')→j' ≠ k:=by
    intro k hc htch hlk
    obtain ⟨k1,k2⟩:=hκ0 j k hjlt hc
    have hD:∀ i,i < ops.size→listed.getD i false=true→i ≠ j∧((dA ops).getD i 0).testBit j=false:=by
     intro i hi hli
     refine ⟨fun e=>by (subst e; rw [hnl'] at hli; cases hli),?_⟩
     rw [Bool.eq_false_iff]
     intro hb
     have:=hanc' i hli ops[i] (Array.getElem?_eq_getElem hi) j hb
     rw [this] at hnl'; cases hnl'
    have hno:∀ n,n≤ops.size→(∀ t,bq k ((tD ops I s L (fun i=>listed.getD i false) n).get t))∧(∀ (b:Nat) (c:List AV),aq (tD ops I s L (fun i=>listed.getD i false) n).H b=aM.own c→∀ (q:Nat) (h:q < c.length),bq k c[q])∧∀ (b i j' : Nat),aq (tD ops I s L (fun i=>listed.getD i false) n).H b=aM.dA i j'→j' ≠ k:=by
     intro n
     induction n with
     | zero =>
      intro _
      refine ⟨(hs0 k k1).1,fun b c hb=>?_,fun b i j' hb=>?_⟩
      ·simp only [tD] at hb
       by_cases hlt:b < s.H.length
       ·rw [aF hlt] at hb
        exact (hs0 k k1).2.1 b c (bn hb)
       rw [a8 (by omega),ln] at hb
       cases hb
      simp only [tD] at hb
      by_cases hlt:b < s.H.length
      ·rw [aF hlt] at hb
       exact (hs0 k k1).2.2 b i j' (ck hb (by simp))
      rw [a8 (by omega),ln] at hb
      cases hb
     | succ n ihn =>
      intro hn
      obtain ⟨i1,i2,i3⟩:=ihn (by omega)
      refine ⟨fun t=>?_,fun b c hb=>?_,fun b i j' hb=>?_⟩
      ·rw [iS]
       by_cases hh:listed.getD n false=true∧(bS ops n).dst=some t
       ·rw [if_pos hh]
        obtain ⟨d1,d2⟩:=hD n (by omega) hh.1
        exact (hnr j k hjlt hc n (by omega) d1 d2).1
       rw [if_neg hh]; exact i1 t
      ·rw [eW] at hb
       by_cases hh:listed.getD n false=true∧(I n).c.lF b=true∧b < s.H.length + L
       ·rw [if_pos hh] at hb
        obtain ⟨d1,d2⟩:=hD n (by omega) hh.1
        refine (hnr j k hjlt hc n (by omega) d1 d2).2 c ?_
        rcases xY (I n) b with h1 | h1
        ·rw [hb] at h1; cases h1
        rw [hb] at h1; exact h1
       rw [if_neg hh] at hb; exact i2 b c hb
      rw [eW] at hb
      by_cases hh:listed.getD n false=true∧(I n).c.lF b=true∧b < s.H.length + L
      ·rw [if_pos hh] at hb
       rcases xY (I n) b with h1 | h1
       ·rw [hb] at h1; cases h1
       rw [hb] at h1; exact absurd h1 (hna n (by omega) i j')
      rw [if_neg hh] at hb; exact i3 b i j' hb
    obtain ⟨n1,n2,n3⟩:=hno ops.size (Nat.le_refl _)
    have hkl:k < (tD ops I s L (fun i=>listed.getD i false) ops.size).H.length:=by rw [hTlen]; exact k2
    have hdead:aq (tD ops I s L (fun i=>listed.getD i false) ops.size).H k = .dead:=by
     rw [agreeH k htch]
     exact gx (by omega)
    exact ⟨nA hkl hdead,n1,fun b c hb=>n2 b c (jv hb),fun b i j' hb=>n3 b i j' (jv hb)⟩
   apply fin
   unfold uf at hloc
   unfold mE
   cases hc:(I j).c with
   | f=>rw [hc] at hloc; exact hloc _ hn2 hag
   | ld k=>rw [hc] at hloc; exact hloc.2 _ hn2 hag (agreeH k (by rw [hc]; simp [fq.nR]))
   | st k=>rw [hc] at hloc; exact hloc.2 _ hn2 hag (agreeH k (by rw [hc]; simp [fq.nR]))
   | ms l=>rw [hc] at hloc; exact hloc.2 _ hn2 hag fun p hp=>⟨by have h1:=hloc.1.1 p hp; have h2:=cP (ops:=ops) (I:=I) (s:=s) (show j≤ops.size by omega); rw [hTlen]; omega,agreeH p.1 (by rw [hc]; simp only [fq.nR]; exact List.any_eq_true.2 ⟨p,hp,by simp⟩)⟩
   | nw k =>
    rw [hc] at hloc
    obtain ⟨a1,a2,a3,a4⟩:=fresh k (by rw [hc]; rfl) (by rw [hc]; simp [fq.nR]) hloc.1.symm
    exact hloc.2 _ hn2 hag a1 a2 a3 a4
   | ap q k =>
    rw [hc] at hloc
    obtain ⟨a1,a2,a3,a4⟩:=fresh k (by rw [hc]; rfl) (by rw [hc]; simp [fq.nR]) hloc.1.2.symm
    exact hloc.2 _ hn2 hag (agreeH q (by rw [hc]; simp [fq.nR])) a1 a2 a3 a4
 refine key ops.size (Array.replicate ops.size false) m a w (by simp) ?_ ?_ ?_ hd
 ·have:∀ i∈List.range ops.size,(!(Array.replicate ops.size false).getD i true)=true:=by
   intro i hi
   have hi:i < ops.size:=by simpa using hi
   simp [Array.getD_eq_getD_getElem?,hi]
  rw [List.countP_eq_length.2 this]
  simp
 ·intro j o hj
  exfalso
  simp only [Array.getD_eq_getD_getElem?,Array.getElem?_replicate] at hj
  split at hj<;>simp at hj
 refine (R.pad L).congr (fun t=>?_) ?_ (vt _ _)
 ·refine nL _ t 0 ops.size (Nat.zero_le _) fun i _ hi h=>?_
  simp only [Array.getD_eq_getD_getElem?,Array.getElem?_replicate] at h
  split at h<;>simp at h
 refine ji (by rw [kL]; simp) fun b=>?_
 refine lG _ b 0 ops.size (Nat.zero_le _) fun i _ hi h=>?_
 simp only [Array.getD_eq_getD_getElem?,Array.getElem?_replicate] at h
 split at h<;>simp at h
end
section
variable {P:Program} {T:TypeId→Option TI}
def kE:List AV→Bool
 | []=>true
 | .p _ :: r=>kE r
 | _=>false
theorem pE (H H2:ay):∀ l:List AV,kE l=true→jB H2 l=jB H l
 | [],_=>rfl
 | x :: r,h=>by
  cases x with
  | p v =>
   have ih:=pE H H2 r h
   simp only [jB,vF,ih]
  | _=>simp [kE] at h
def jo (s:St):Op→Option fq
 | .load _ x=>match s.ev x with | .ptr k _=>some (.ld k) | .p (.ptr _)=>some .f | _=>none
 | .store _ x _=>match s.ev x with | .ptr k _=>some (.st k) | _=>none
 | .alloc _=>some (.nw s.H.length)
 | .call { callee:=.builtin .append,args,.. }=>match args.toList.map s.ev with | [.sl k _ _,.p _]=>some (.ap k s.H.length) | _=>none
 | .lookup _ x _ _=>match s.ev x with | .mptr k=>some (.ld k) | _=>none
 | .makeFunc _ _ caps=>bif kE (caps.toList.map s.ev) then some .f else none
 | op=>bif jM op then none else some .f
def fk (c:fq) (H:ay):aM:=
 match c with
 | .st k=>aq H k
 | .nw k=>aq H k
 | .ap _ k=>aq H k
 | _=>.dead
theorem tY (κ:Nat) (v:Value):bq κ (cv v):=by
 unfold cv; split<;>constructor
theorem tw {ti:TI} {H:ay} {k lo len:Nat} {v:PV} {r:OV} (h:gK T ti H (.sl k lo len) (.p v)=some r) :
  ∃ (cc:List AV) (xs:List PV) (V:Prop),aq H k = .own cc∧∀ H2:ay,aq H2 k = .own cc→gK T ti H2 (.sl k lo len) (.p v)=some ⟨V,.sl H2.length 0 (len + xs.length),aE H2 k .dead++[.own ((cc.drop lo).take len++xs.map .p)]⟩:=by
 unfold gK at h ⊢
 cases hk:ti.kind with
 | slice e =>
  rw [hk] at h
  simp only at h ⊢
  cases hte:T e with
  | none=>rw [hte] at h; cases h
  | some te =>
   rw [hte] at h
   simp only at h ⊢
   cases hg:aq H k with
   | dead=>rw [hg] at h; cases v<;>simp [da] at h
   | mp _ _ _=>rw [hg] at h; cases v<;>simp [da] at h
   | dA _ _=>rw [hg] at h; cases v<;>simp [da] at h
   | lp _=>rw [hg] at h; cases v<;>simp [da] at h
   | fro d=>rw [hg] at h; cases v<;>simp [da] at h
   | own cc =>
    cases v with
    | list l=>exact ⟨cc,l,_,rfl,fun H2 h2=>by simp only [da,h2,List.length_map]; rfl⟩
    | nn l=>exact ⟨cc,l,_,rfl,fun H2 h2=>by simp only [da,h2,List.length_map]; rfl⟩
    | nil=>exact ⟨cc,[],_,rfl,fun H2 h2=>by simp only [da,h2,List.length_nil,List.map_nil]; rfl⟩
    | _=>rw [hg] at h; simp [da] at h
 | _=>rw [hk] at h; cases h
theorem uc {ti:TI} {ok:Bool} {H:ay} {k:Nat} {y:AV} {r:OV} (h:fD T ti ok H (.mptr k) y=some r):k < H.length∧∀ H2:ay,aq H2 k=aq H k→fD T ti ok H2 (.mptr k) y=some { r with H:=H2 }:=by
 unfold fD at h ⊢
 split at h
 ·split at h
  ·simp only at h
   split at h
   ·rename_i kk d v zp hg hz
    simp only [Option.some.injEq] at h
    subst h
    refine ⟨(List.getElem?_eq_some_iff.1 (ck hg (by simp))).1,fun H2 h2=>?_⟩
    simp_all
   cases h
  cases h
 cases h
theorem zM (hT:∀ t ti,T t=some ti→bu P t=some ti) {o:Oper} {s:St} {r:OV} {c:fq} (hc:jo s o.op=some c) (h:bZ T s o.op=some r) (hvc:r.vc) :
  uf P o s ⟨c,r.av,fk c r.H,false⟩∧r.H=kG ⟨c,r.av,fk c r.H,false⟩ s.H:=by
 have free:jM o.op=false→c = .f→uf P o s ⟨c,r.av,fk c r.H,false⟩∧r.H=kG ⟨c,r.av,fk c r.H,false⟩ s.H:=by
  rintro hf rfl
  refine ⟨?_,(ju hf h).1⟩
  intro s2 hn ha
  have h1:=(ju hf h).2 s2.H
  have:=mP (T:=T) (s:={ s with H:=s2.H }) (s2:=s2) (op:=o.op) (fun x hx=>by rw [ha x hx]; cases x<;>rfl) rfl
  rw [h1] at this
  exact (dP hT this hvc).wp
 generalize hop:o.op=op at *
 cases op with
 | makeFunc fn first caps =>
  simp only [jo] at hc
  cases hp:kE (caps.toList.map s.ev) with
  | false=>rw [hp] at hc; cases hc
  | true =>
   rw [hp] at hc
   simp only [cond_true,Option.some.injEq] at hc
   subst hc
   have hr:r.H=s.H:=by
    cases fn with
    | func f =>
     simp only [bZ] at h
     cases hf:first.isEmpty<;>rw [hf] at h
     ·cases h
     exact nK h
    | _=>simp [bZ] at h
   refine ⟨?_,hr⟩
   intro s2 hn ha
   have h2:bZ T s2 o.op=some { r with H:=s2.H }:=by
    rw [hop]
    have hm:caps.toList.map s2.ev=caps.toList.map s.ev:=List.map_congr_left fun x hx=>ha x (by rw [hop]; simp only [Op.operands]; simp; right; simpa using hx)
    cases fn with
    | func f =>
     simp only [bZ] at h ⊢
     cases hf:first.isEmpty<;>rw [hf] at h
     ·cases h
     simp only [cond_true] at h ⊢
     rw [hm]
     unfold eN at h ⊢
     rw [pE s.H s2.H _ hp]
     cases hcp:jB s.H (caps.toList.map s.ev) with
     | none=>rw [hcp] at h; cases h
     | some x=>rw [hcp] at h; obtain ⟨p1,l1⟩:=x; simp only [Option.some.injEq] at h ⊢; subst h; rfl
    | _=>simp [bZ] at h
   exact (dP hT h2 hvc).wp
 | lookup t x y ok =>
  simp only [jo] at hc
  simp only [bZ] at h
  cases hti:T t with
  | none=>rw [hti] at h; cases h
  | some ti =>
   rw [hti] at h
   simp only at h
   have hx:∀ s2:St,fB o s s2→s2.ev x=s.ev x:=fun s2 ha=>ha x (by rw [hop]; simp [Op.operands])
   have hy:∀ s2:St,fB o s s2→s2.ev y=s.ev y:=fun s2 ha=>ha y (by rw [hop]; simp [Op.operands])
   cases hev:s.ev x with
   | mptr k =>
    rw [hev] at hc h
    simp only [Option.some.injEq] at hc
    subst hc
    obtain ⟨hkl,hloc⟩:=uc h
    refine ⟨⟨hkl,fun s2 hn ha hH=>?_⟩,qJ h⟩
    have h2:bZ T s2 o.op=some { r with H:=s2.H }:=by
     rw [hop]
     simp only [bZ,hti,hx s2 ha,hy s2 ha,hev]
     exact hloc s2.H hH
    exact (dP hT h2 hvc).wp
   | _=>rw [hev] at hc; cases hc
 | load t x =>
  simp only [jo] at hc
  simp only [bZ] at h
  cases hti:T t with
  | none=>rw [hti] at h; cases h
  | some ti =>
   rw [hti] at h
   simp only at h
   have hx:∀ s2:St,fB o s s2→s2.ev x=s.ev x:=fun s2 ha=>ha x (by rw [hop]; simp [Op.operands])
   cases hev:s.ev x with
   | ptr k i =>
    rw [hev] at hc h
    simp only [Option.some.injEq] at hc
    subst hc
    have hkl:k < s.H.length:=by
     simp only [ja] at h
     cases hg:aq s.H k with
     | dead=>rw [hg] at h; cases h
     | mp _ _ _=>rw [hg] at h; cases h
     | dA _ _=>rw [hg] at h; cases h
     | lp _=>rw [hg] at h; cases h
     | own d=>exact (List.getElem?_eq_some_iff.1 (bn hg)).1
     | fro d=>exact (List.getElem?_eq_some_iff.1 (gr hg)).1
    refine ⟨⟨hkl,fun s2 hn ha hH=>?_⟩,rM h⟩
    have h2:bZ T s2 o.op=some { r with H:=s2.H }:=by
     rw [hop]
     simp only [bZ,hti,hx s2 ha,hev]
     simp only [ja] at h ⊢
     rw [hH]
     cases hg:aq s.H k with
     | dead=>rw [hg] at h; cases h
     | mp _ _ _=>rw [hg] at h; cases h
     | dA _ _=>rw [hg] at h; cases h
     | lp _=>rw [hg] at h; cases h
     | own d=>rw [hg] at h; cases hr:dc ti.kind<;>rw [hr] at h<;>simp only [cond_true,cond_false,Option.some.injEq] at h ⊢<;>subst h<;>rfl
     | fro d=>rw [hg] at h; cases hr:dc ti.kind<;>rw [hr] at h<;>simp only [cond_true,cond_false,Option.some.injEq] at h ⊢<;>subst h<;>rfl
    exact (dP hT h2 hvc).wp
   | p v =>
    rw [hev] at hc h
    cases v with
    | ptr d =>
     simp only [Option.some.injEq] at hc
     subst hc
     refine ⟨?_,rM h⟩
     intro s2 hn ha
     have h2:bZ T s2 o.op=some { r with H:=s2.H }:=by
      rw [hop]
      simp only [bZ,hti,hx s2 ha,hev]
      simp only [ja] at h ⊢
      cases hr:dc ti.kind<;>rw [hr] at h<;>simp only [cond_true,cond_false,Option.some.injEq] at h ⊢<;>subst h<;>rfl
     exact (dP hT h2 hvc).wp
    | _=>cases hc
   | _=>rw [hev] at hc; cases hc
 | store t x v =>
  simp only [jo] at hc
  simp only [bZ] at h
  cases hti:T t with
  | none=>rw [hti] at h; cases h
  | some ti =>
   rw [hti] at h
   simp only at h
   have hx:∀ s2:St,fB o s s2→s2.ev x=s.ev x:=fun s2 ha=>ha x (by rw [hop]; simp [Op.operands])
   have hv:∀ s2:St,fB o s s2→s2.ev v=s.ev v:=fun s2 ha=>ha v (by rw [hop]; simp [Op.operands])
   cases hev:s.ev x with
   | ptr k i =>
    rw [hev] at hc h
    simp only [Option.some.injEq] at hc
    subst hc
    simp only [kZ] at h
    cases hg:aq s.H k with
    | dead=>rw [hg] at h; cases h
    | mp _ _ _=>rw [hg] at h; cases h
    | dA _ _=>rw [hg] at h; cases h
    | lp _=>rw [hg] at h; cases h
    | fro d=>rw [hg] at h; cases h
    | own d =>
     rw [hg] at h
     simp only [Option.some.injEq] at h
     have hkl:k < s.H.length:=(List.getElem?_eq_some_iff.1 (bn hg)).1
     have hb:aq r.H k = .own (iB d i (s.ev v).cells):=by
      rw [← h]; simp only; rw [gh _ _ _ hkl]
     refine ⟨⟨hkl,fun s2 hn ha hH=>?_⟩,?_⟩
     ·have h2:bZ T s2 o.op=some { r with H:=aE s2.H k (.own (iB d i (s.ev v).cells)) }:=by
       rw [hop]
       simp only [bZ,hti,hx s2 ha,hv s2 ha,hev,kZ,hH,hg]
       rw [← h]
      simp only [fk]
      rw [hb]
      exact (dP hT h2 hvc).wp
     simp only [kG,fk]
     rw [hb,← h]
   | p v=>rw [hev] at hc; cases hc
   | dead=>rw [hev] at hc; cases hc
   | sl _ _ _=>rw [hev] at hc; cases hc
   | agg _=>rw [hev] at hc; cases hc
   | tup _=>rw [hev] at hc; cases hc
   | cl _ _=>rw [hev] at hc; cases hc
   | me _=>rw [hev] at hc; cases hc
   | sls _ _ _ _=>rw [hev] at hc; cases hc
   | mptr _=>rw [hev] at hc; cases hc
   | yv _ _ _=>rw [hev] at hc; cases hc
 | alloc t =>
  simp only [jo,Option.some.injEq] at hc
  subst hc
  simp only [bZ] at h
  cases hti:T t with
  | none=>rw [hti] at h; cases h
  | some ti =>
   rw [hti] at h
   simp only [Option.some.injEq] at h
   have hb:aq r.H s.H.length = .own (ti.zero.map cv):=by
    rw [← h]; simp only [gN]; rw [a8 (Nat.le_refl _),Nat.sub_self]; rfl
   refine ⟨⟨rfl,fun s2 hn ha hd n1 n2 n3=>?_⟩,?_⟩
   ·simp only [fk]
    rw [hb]
    have hav:r.av = .ptr s.H.length 0:=by rw [← h]; rfl
    rw [hav]
    have hvc' : (gN ti s2.H).vc:=by
     have:(gN ti s.H).vc:=by rw [h]; exact hvc
     exact this
    refine AX.wp fun C m a w R=>?_
    obtain ⟨v,w',m',hy,R',hv⟩:=nS hT R (o:=o) hop hti hvc'
    obtain ⟨g1,g2,_⟩:=Rel.move R (b:=.own (ti.zero.map cv)) R' hd n3 (fun _ _ h=>by cases h) n1 n2 fun c hc i hi=>by
     cases hc
     rw [List.getElem_map]
     exact ⟨tY _ _,tY _ _⟩
    exact ⟨v,w',_,hy,g1,g2 0 v hv⟩
   simp only [kG,fk]
   rw [hb,← h]; rfl
 | call c' =>
  obtain ⟨callee,args,ts⟩:=c'
  have other:jo s (.call ⟨callee,args,ts⟩)=(bif jM (.call ⟨callee,args,ts⟩) then none else some .f)→uf P o s ⟨c,r.av,fk c r.H,false⟩∧r.H=kG ⟨c,r.av,fk c r.H,false⟩ s.H:=by
   intro e
   rw [e] at hc
   cases hf:jM (.call ⟨callee,args,ts⟩) with
   | true=>rw [hf] at hc; cases hc
   | false=>rw [hf] at hc; exact free hf (by simpa using hc.symm)
  cases callee with
  | builtin b =>
   cases b with
   | append =>
    simp only [jo] at hc
    split at hc<;>simp only [Option.some.injEq,reduceCtorEq] at hc
    rename_i k lo len v hl
    subst hc
    have hev:∀ s2:St,fB o s s2→args.toList.map s2.ev=[.sl k lo len,.p v]:=by
     intro s2 ha
     rw [← hl]
     exact List.map_congr_left fun x hx=>ha x (by rw [hop]; simp [Op.operands,Call.operands]; simpa using hx)
    simp only [bZ] at h
    rw [hl] at h
    obtain ⟨t,ti,hts,hti,h⟩:∃ t ti,ts.toList=[t,t]∧T t=some ti∧gK T ti s.H (.sl k lo len) (.p v)=some r:=by
     unfold cJ at h
     split at h<;>simp only [reduceCtorEq] at *
     rename_i a1 a2 sv xv t t' ea e2 e3
     simp only [List.cons.injEq,and_true] at ea
     obtain ⟨rfl,rfl⟩:=ea
     cases hti:T t with
     | none=>rw [hti] at h; cases h
     | some ti =>
      rw [hti] at h
      simp only at h
      by_cases ht:t=t'
      ·rw [if_pos ht] at h; subst ht; exact ⟨t,ti,e2,hti,h⟩
      rw [if_neg ht] at h; cases h
    obtain ⟨cc,xs,V,hg,hall⟩:=tw h
    have hr:r=⟨V,.sl s.H.length 0 (len + xs.length),aE s.H k .dead++[.own ((cc.drop lo).take len++xs.map .p)]⟩:=by
     have:=hall s.H hg
     rw [h] at this
     exact Option.some.inj this
    have hkl:k < s.H.length:=(List.getElem?_eq_some_iff.1 (bn hg)).1
    have hb:aq r.H s.H.length = .own ((cc.drop lo).take len++xs.map .p):=by
     rw [hr]; simp only; rw [a8 (by rw [aB]; exact Nat.le_refl _),aB,Nat.sub_self]; rfl
    have hV:V:=by rw [hr] at hvc; exact hvc
    refine ⟨⟨⟨hkl,rfl⟩,fun s2 hn ha hH hd n1 n2 n3=>?_⟩,?_⟩
    ·simp only [fk]
     rw [hb,hr]
     rw [hg] at hH
     have h2:bZ T s2 o.op=some ⟨V,.sl s2.H.length 0 (len + xs.length),aE s2.H k .dead++[.own ((cc.drop lo).take len++xs.map .p)]⟩:=by
      rw [hop]
      simp only [bZ]
      rw [hev s2 ha,hts]
      simp only [cJ,hti,if_true]
      exact hall s2.H hH
     have hkne:k ≠ s.H.length:=by omega
     have hdd:(aE s2.H k .dead)[s.H.length]? = some .dead:=by
      rw [cq,if_neg (fun hh=>hkne hh.1.symm)]; exact hd
     refine AX.wp fun C m a w R=>?_
     obtain ⟨v',w',m',hy,R',hv⟩:=dP hT h2 hV C m a w R
     have hlen:(aE s2.H k .dead).length=s2.H.length:=aB _ _ _
     have hown:∀ (j:Nat) (c:List AV),(aE s2.H k .dead)[j]? = some (aM.own c)→s2.H[j]? = some (aM.own c):=by
      intro j c hj
      rw [cq] at hj
      by_cases e:j=k∧k < s2.H.length
      ·rw [if_pos e] at hj; cases hj
      rw [if_neg e] at hj; exact hj
     obtain ⟨g1,_,g2⟩:=Rel.move (s:={ s2 with H:=aE s2.H k .dead }) (R.kill k) (b:=.own ((cc.drop lo).take len++xs.map .p)) R' hdd (fun b i j hj=>n3 b i j (by rw [cq] at hj; by_cases e:b=k∧k < s2.H.length; (rw [if_pos e] at hj; cases hj); (rw [if_neg e] at hj; exact hj))) (fun _ _ h=>by cases h) n1 (fun j c hj=>n2 j c (hown j c hj)) fun c hc i hi=>by
      cases hc
      have hcc:=bn hH
      by_cases hlt:i < ((cc.drop lo).take len).length
      ·rw [List.getElem_append_left hlt]
       simp only [List.getElem_take,List.getElem_drop]
       have hi2:lo + i < cc.length:=by
        simp only [List.length_take,List.length_drop] at hlt; omega
       refine ⟨n2 k cc hcc _ hi2,?_⟩
       simp only [hlen]
       rcases R.blk k cc hcc with ⟨b1,_⟩ | ⟨l2,cur2,e2,_,_,_,_,_,_,b7⟩
       ·subst b1; simp at hi2
       exact (b7 _ hi2).uI (Nat.le_refl _)
      rw [List.getElem_append_right (by omega),List.getElem_map]
      exact ⟨.p _,.p _⟩
     simp only [hlen] at g1 g2 hv
     exact ⟨v',w',_,hy,g1,g2 _ _ v' hv⟩
    simp only [kG,fk]
    rw [hb,hr]
   | _=>exact other rfl
  | _=>exact other rfl
 | _=>simp only [jo] at hc; first|(simp only [jM,cond_true,cond_false,Option.some.injEq,reduceCtorEq] at hc; done)|exact free rfl (by simpa [jM] using hc.symm)
inductive X2 where
 | run (vc:Prop) (s:St) (acc:List I2)
 | stop (vc:Prop) (rest:List Oper) (s:St) (acc:List I2)
def wj (T:TypeId→Option TI) (all:Array Oper) (o:Oper) (rest:List Oper) (vc:Prop) (s:St) (acc:List I2):X2:=
 match bz all s o with
 | some true =>
  match jo s o.op,bZ T s o.op with
  | some c,some r=>.run (vc∧au s o.dst∧r.vc) (after o s r) (acc++[⟨c,r.av,fk c r.H,false⟩])
  | _,_=>.stop vc (o :: rest) s acc
 | some false=>.run (vc∧au s o.dst) (s.put o.dst (.p (.tup []))) (acc++[⟨.f,.p (.tup []),.dead,false⟩])
 | none=>.stop vc (o :: rest) s acc
def nq (T:TypeId→Option TI) (all:Array Oper):List Oper→X2→X2
 | [],x=>x
 | o :: r,.run vc s acc=>nq T all r (wj T all o r vc s acc)
 | _ :: _,.stop vc rest s acc=>.stop vc rest s acc
def pZ (P:Program) (all:Array Oper) (rest:List Oper) (K:St→List I2→Prop) (s:St) (acc:List I2):Prop:=∃ s' xs,uh P all rest xs s s'∧K s' (acc++xs)
def CL (P:Program) (all:Array Oper) (K:St→List I2→Prop):X2→Prop
 | .run vc s acc=>vc∧K s acc
 | .stop vc rest s acc=>vc∧pZ P all rest K s acc
theorem pz (all:Array Oper) (l:List Oper) (vc:Prop) (rest:List Oper) (s:St) (acc:List I2):nq T all l (.stop vc rest s acc) = .stop vc rest s acc:=by cases l<;>rfl
theorem jg (hT:∀ t ti,T t=some ti→bu P t=some ti) {all:Array Oper} {K:St→List I2→Prop} : ∀ (ops:List Oper) (vc:Prop) (s:St) (acc:List I2),CL P all K (nq T all ops (.run vc s acc))→vc∧pZ P all ops K s acc
 | [],vc,s,acc,h=>⟨h.1,s,[],.nil s,by rw [List.append_nil]; exact h.2⟩
 | o :: r,vc,s,acc,h=>by
  simp only [nq,wj] at h
  split at h
  ·rename_i hg
   split at h
   ·rename_i c ov hcl hov
    obtain ⟨⟨h1,h2,h3⟩,s',xs,hr,hK⟩:=jg hT r _ _ _ h
    obtain ⟨g1,g2⟩:=zM hT hcl hov h3
    refine ⟨h1,s',_ :: xs,.op hg (cT h2) g1 (fun h=>by cases h) ?_,by rw [List.append_assoc] at hK; exact hK⟩
    rw [← g2]
    exact hr
   rw [pz] at h; exact h
  ·rename_i hg
   obtain ⟨⟨h1,h2⟩,s',xs,hr,hK⟩:=jg hT r _ _ _ h
   exact ⟨h1,s',_ :: xs,.skip hg (cT h2) hr,by rw [List.append_assoc] at hK; exact hK⟩
  rw [pz] at h; exact h
theorem eP (hT:∀ t ti,T t=some ti→bu P t=some ti) {all:Array Oper} {rest:List Oper} {K:St→List I2→Prop} {s:St} {acc:List I2} (h:CL P all K (nq T all rest (.run True s acc))):pZ P all rest K s acc:=
 (jg hT rest True s acc h).2
def HP:AV→Bool
 | .p _=>true
 | _=>false
theorem kA {all:Array Oper} {rest:List Oper} {K:St→List I2→Prop} {acc:List I2} {s:St} {dst:Option Tmp} {ty:TypeId} {pos:String} {aft:Array Edge} {gd:Option (Nat × Bool)} {fo:Operand} {args:Array Operand} {ts:Array TypeId} {g:FuncId} {avs:List PV} {p:Prop} {b:Bool} {r:PV}
  (hc:bR P g avs r) (hg:bz all s { dst:=dst,op:=.call { callee:=.value fo,args:=args,argTypes:=ts },type:=ty,pos:=pos,after:=aft,guard:=gd } = some true)
  (hcall:gq s fo args=some (g,avs,p,b)) (hb:(b || r.gm)=true) (hpure:args.toList.all (fun x=>HP (s.ev x))=true) (hd:au s dst) (hp:p) (h:pZ P all rest K (s.put dst (.p r)) (acc++[⟨.f,.p r,.dead,false⟩])) :
  pZ P all ({ dst:=dst,op:=.call { callee:=.value fo,args:=args,argTypes:=ts },type:=ty,pos:=pos,after:=aft,guard:=gd } :: rest) K s acc:=by
 obtain ⟨s',xs,hr,hK⟩:=h
 refine ⟨s',⟨.f,.p r,.dead,false⟩ :: xs,.op hg (cT hd) ?_ (fun h=>by cases h) hr,by rw [List.append_assoc] at hK; exact hK⟩
 intro s2 hn ha
 have ha' : ∀ x∈(Op.call { callee:=.value fo,args:=args,argTypes:=ts }).operands,s2.ev x=s.ev x:=ha
 simp only [Op.operands,Call.operands] at ha'
 have h1:s2.ev fo=s.ev fo:=ha' fo (by simp)
 have h2:args.toList.map s2.ev=args.toList.map s.ev:=List.map_congr_left fun x hx=>ha' x (by simp; right; simpa using hx)
 have h3:∀ l:List AV,l.all HP=true→cy (dO s2.H) l=cy (dO s.H) l:=by
  intro l
  induction l with
  | nil=>intro _; rfl
  | cons x l ih =>
   intro hl
   simp only [List.all_cons,Bool.and_eq_true] at hl
   simp only [cy]
   rw [ih hl.2]
   cases x with
   | p v=>rfl
   | _=>simp [HP] at hl
 have:gq s2 fo args=some (g,avs,p,b):=by
  rw [← hcall]
  unfold gq
  rw [h1,h2,h3 _ (by rw [List.all_map]; exact hpure)]
 exact mQ rfl hc this hp hb
def G0 (k:Nat):AV→Bool
 | .p _=>true
 | .sl j _ _=>j == k
 | _=>false
theorem pW {all:Array Oper} {K:St→List I2→Prop} {vc:Prop} {s:St} {acc:List I2} (h1:vc) (h2:K s acc):CL P all K (.run vc s acc):=⟨h1,h2⟩
theorem mA {all:Array Oper} {K:St→List I2→Prop} {vc:Prop} {r:List Oper} {s:St} {acc:List I2} (h1:vc) (h2:pZ P all r K s acc):CL P all K (.stop vc r s acc):=⟨h1,h2⟩
theorem oM {Q:Exit→St→Prop} {s:St} {id:Nat} {l:List Oper} (hm:P.follows .mixedOrders=true) (h:∀ K:St→List I2→Prop,(∀ s' xs,lL l.toArray xs=true→Q .normal s'→K s' xs)→pZ P l.toArray l K s []):Holds P (.region id l.toArray true) Q s:=by
 intro r ds C m a w R hd
 obtain ⟨s',xs,hr,hK⟩:=h (fun s' xs=>lL l.toArray xs=true∧Q .normal s') fun _ _ h1 h2=>⟨h1,h2⟩
 rw [List.nil_append] at hK
 refine jw hm ?_
 exact tQ hK.1 (by simpa using hr) (R.later ⟨rfl,rfl,rfl,Nat.le_refl _,fun _ _=>rfl,Nat.le_succ _⟩) hd fun m' a' w' R' hd'=>⟨s',m',hK.2,R',hd'⟩
end
def Ho:=And.intro @nq.eq_1
 <| And.intro @nq.eq_2
 <| And.intro @nq.eq_3
 <| And.intro @wj.eq_1
 <| And.intro @jo.eq_1
 <| And.intro @jo.eq_2
 <| And.intro @jo.eq_3
 <| And.intro @jo.eq_4
 <| And.intro @jo.eq_5
 <| And.intro @jo.eq_6
 <| And.intro @jo.eq_7
 <| And.intro @kE.eq_1
 <| And.intro @kE.eq_2
 <| And.intro @fk.eq_1
 <| And.intro @fk.eq_2
 <| And.intro @fk.eq_3
 <| And.intro @fk.eq_4
 <| And.intro @jM.eq_1
 <| And.intro @jM.eq_2
 <| And.intro @jM.eq_3
 <| And.intro @jM.eq_4
 <| And.intro @jM.eq_5
 <| And.intro @jM.eq_6
 <| And.intro @jM.eq_7
 <| And.intro @jM.eq_8
 <| And.intro @jM.eq_9
 <| And.intro @jM.eq_10
 <| And.intro @jM.eq_11
 <| And.intro @jM.eq_12
 <| And.intro @jM.eq_13
 <| And.intro @jM.eq_14
 <| And.intro @jM.eq_15
 <| And.intro @jM.eq_16
 <| And.intro @jM.eq_17
 <| And.intro @HP.eq_1
 <| And.intro @HP.eq_2
 <| And.intro @G0.eq_1
 <| And.intro @G0.eq_2
 <| And.intro @G0.eq_3
 <| And.intro @cond_true.{0}
 <| @cond_false.{0}
def qa:=@IU
def qb:=@HE
def qc:=@HG
def qd:=@Hy
def qe:=@Ih
def qf:=@Io
def qh:=@CZ
def qj:=@D8
def qk:=@Gc
def ql:=@Cm
def qm:=@FM
end Go.Pv
namespace Go.Proofs.YtjlmpmidchddjaaDoor
open Lean.Grind
attribute [local instance] Lean.Grind.Semiring.natCast Lean.Grind.Ring.intCast
section
variable {K:Type} [CommRing K]
def sm (f:Nat→K):Nat→K
 | 0=>0
 | n + 1=>sm f n + f n
theorem al {f g:Nat→K} {n:Nat} (h:∀ i,i < n→f i=g i):sm f n=sm g n:=by
 induction n with
 | zero=>rfl
 | succ n ih=>rw [sm,sm,ih fun i hi=>h i (by omega),h n (by omega)]
theorem aW {f:Nat→K} {n:Nat} (h:∀ i,i < n→f i=0):sm f n=0:=by
 induction n with
 | zero=>rfl
 | succ n ih=>rw [sm,ih fun i hi=>h i (by omega),h n (by omega)]; grind
theorem kB (f g:Nat→K) (n:Nat):sm (fun i=>f i + g i) n=sm f n + sm g n:=by
 induction n with
 | zero=>simp only [sm]; grind
 | succ n ih=>simp only [sm,ih]; grind
theorem kQ (f g:Nat→K) (n:Nat):sm (fun i=>f i - g i) n=sm f n - sm g n:=by
 induction n with
 | zero=>simp only [sm]; grind
 | succ n ih=>simp only [sm,ih]; grind
theorem aN (k:K) (f:Nat→K) (n:Nat):sm (fun i=>k * f i) n=k * sm f n:=by
 induction n with
 | zero=>simp only [sm]; grind
 | succ n ih=>simp only [sm,ih]; grind
theorem bU (k:K) (f:Nat→K) (n:Nat):sm (fun i=>f i * k) n=sm f n * k:=by
 induction n with
 | zero=>simp only [sm]; grind
 | succ n ih=>simp only [sm,ih]; grind
theorem aX (f:Nat→Nat→K) (n m:Nat):sm (fun i=>sm (fun j=>f i j) m) n=sm (fun j=>sm (fun i=>f i j) n) m:=by
 induction n with
 | zero=>simp only [sm]; exact (aW fun _ _=>rfl).symm
 | succ n ih=>simp only [sm,ih,kB]
theorem bj {f:Nat→K} {n i:Nat} (hi:i < n) (h:∀ j,j < n→j ≠ i→f j=0):sm f n=f i:=by
 induction n with
 | zero=>omega
 | succ n ih =>
  rw [sm]
  by_cases e:i=n
  ·subst e
   rw [aW fun j hj=>h j (by omega) (by omega)]; grind
  rw [ih (by omega) fun j hj=>h j (by omega),h n (by omega) (by omega)]; grind
theorem dT (k:K) (n:Nat):sm (fun _=>k) n=(n:K) * k:=by
 induction n with
 | zero=>simp only [sm]; grind
 | succ n ih=>simp only [sm,ih]; grind
def sl (l:List Nat) (f:Nat→K):K:=l.foldr (fun x r=>f x + r) 0
theorem cA (x:Nat) (l:List Nat) (f:Nat→K):sl (x :: l) f=f x + sl l f:=rfl
theorem Fw (l l' : List Nat) (f:Nat→K):sl (l++l') f=sl l f + sl l' f:=by
 induction l with
 | nil=>simp only [List.nil_append,sl,List.foldr_nil]; grind
 | cons x l ih=>simp only [List.cons_append,cA,ih]; grind
theorem cm (f:Nat→K) (n:Nat):sl (List.range n) f=sm f n:=by
 induction n with
 | zero=>rfl
 | succ n ih=>rw [List.range_succ,Fw,ih,sm,cA]; simp only [sl,List.foldr_nil]; grind
theorem El {l l' : List Nat} (h:l.Perm l') (f:Nat→K):sl l f=sl l' f:=by
 induction h with
 | nil=>rfl
 | cons x _ ih=>rw [cA,cA,ih]
 | swap x y l=>simp only [cA]; grind
 | trans _ _ h1 h2=>rw [h1,h2]
theorem Gp (l:List Nat) (σ:Nat→Nat) (f:Nat→K):sl (l.map σ) f=sl l fun x=>f (σ x):=by
 induction l with
 | nil=>rfl
 | cons x l ih=>rw [List.map_cons,cA,cA,ih]
theorem gA:∀ {l l' : List Nat},l.Nodup→(∀ x∈l,x∈l')→l'.length≤l.length→l.Perm l'
 | [],l',_,_,h=>by
  have:l' = []:=List.length_eq_zero_iff.1 (by simpa using h)
  rw [this]
 | x :: l,l',h1,h2,h3=>by
  obtain ⟨h1a,h1b⟩:=List.nodup_cons.1 h1
  have hx:x∈l':=h2 x (by simp)
  have hp:=List.perm_cons_erase hx
  refine (List.Perm.cons x (gA h1b (fun y hy=>?_) ?_)).trans hp.symm
  ·have hne:y ≠ x:=fun e=>h1a (e ▸ hy)
   exact (List.mem_erase_of_ne hne).2 (h2 y (by simp [hy]))
  rw [List.length_erase_of_mem hx]
  simp at h3; omega
theorem pQ {σ:Nat→Nat} {n:Nat} (h1:∀ i,i < n→σ i < n) (h2:∀ i j,i < n→j < n→σ i=σ j→i=j) (f:Nat→K):sm (fun i=>f (σ i)) n=sm f n:=by
 rw [← cm,← cm,← Gp]
 refine El (gA ?_ (fun x hx=>?_) (by simp)) f
 ·rw [List.nodup_iff_pairwise_ne,List.pairwise_map]
  refine (List.nodup_iff_pairwise_ne.1 (List.nodup_range (n:=n))).imp_of_mem fun {a b} ha hb hab e=>hab (h2 a b (List.mem_range.1 ha) (List.mem_range.1 hb) e)
 obtain ⟨i,hi,rfl⟩:=List.mem_map.1 hx
 exact List.mem_range.2 (h1 i (List.mem_range.1 hi))
def nt (K:Type) [CommRing K]:Prop:=(∀ a:K,a ≠ 0→∃ b,a * b=1)∧(1:K) ≠ 0
theorem nt.mul {K:Type} [CommRing K] (h:nt K) {a b:K} (hab:a * b=0):a=0∨b=0:=by
 by_cases ha:a=0
 ·exact .inl ha
 obtain ⟨c,hc⟩:=h.1 a ha
 exact .inr (by grind)
theorem xU (F:nt K):∀ (r:Nat) (A:Nat→Nat→K),∃ x:Nat→K,(∃ j,j≤r∧x j ≠ 0)∧∀ i,i < r→sm (fun j=>A i j * x j) (r + 1)=0
 | 0,A=>⟨fun _=>1,⟨0,Nat.le_refl _,F.2⟩,fun i hi=>absurd hi (Nat.not_lt_zero _)⟩
 | r + 1,A=>by
  by_cases h:∃ i0,i0 < r + 1∧A i0 (r + 1) ≠ 0
  ·obtain ⟨i0,h1,h2⟩:=h
   obtain ⟨b,hb⟩:=F.1 _ h2
   obtain ⟨x,⟨j0,hj0,hx0⟩,hx⟩:=xU F r fun i j=>A (if i < i0 then i else i + 1) j - A (if i < i0 then i else i + 1) (r + 1) * b * A i0 j
   obtain ⟨y,hy⟩:∃ y,y = -b * sm (fun j=>A i0 j * x j) (r + 1):=⟨_,rfl⟩
   refine ⟨fun j=>if j=r + 1 then y else x j,⟨j0,by omega,by show (if j0=r + 1 then y else x j0) ≠ 0; rw [if_neg (by omega)]; exact hx0⟩,fun i hi=>?_⟩
   have e1:∀ i,sm (fun j=>A i j * (if j=r + 1 then y else x j)) (r + 1)=sm (fun j=>A i j * x j) (r + 1):=fun i=>al fun j hj=>by rw [if_neg (by omega)]
   rw [sm,e1]
   show _ + A i (r + 1) * (if r + 1=r + 1 then y else x (r + 1))=0
   rw [if_pos rfl]
   by_cases e:i=i0
   ·subst e
    rw [hy]; grind
   have h3:∃ i',i' < r∧(if i' < i0 then i' else i' + 1)=i:=by
    by_cases h4:i < i0
    ·exact ⟨i,by omega,if_pos h4⟩
    exact ⟨i - 1,by omega,by rw [if_neg (by omega)]; omega⟩
   obtain ⟨i',h5,h6⟩:=h3
   have h7:=hx i' h5
   rw [h6] at h7
   have e2:sm (fun j=>(A i j - A i (r + 1) * b * A i0 j) * x j) (r + 1)=sm (fun j=>A i j * x j) (r + 1) - A i (r + 1) * b * sm (fun j=>A i0 j * x j) (r + 1):=by
    rw [← aN,← kQ]
    exact al fun j _=>by grind
   rw [e2] at h7
   rw [hy]; grind
  refine ⟨fun j=>if j=r + 1 then 1 else 0,⟨r + 1,Nat.le_refl _,by show (if r + 1=r + 1 then (1:K) else 0) ≠ 0; rw [if_pos rfl]; exact F.2⟩,fun i hi=>?_⟩
  have h0:A i (r + 1)=0:=Classical.byContradiction fun hc=>h ⟨i,hi,hc⟩
  rw [sm,aW fun j hj=>by show A i j * (if j=r + 1 then 1 else 0)=0; rw [if_neg (by omega)]; grind,h0]
  grind
def jd (y:Nat→Nat→K) (q:Nat):Prop:=∀ x:Nat→K,(∀ k,sm (fun j=>x j * y j k) q=0)→∀ j,j < q→x j=0
theorem sN (F:nt K) {y z:Nat→Nat→K} {q r:Nat} (hy:jd y q) (h:∀ j,j < q→∃ C:Nat→K,∀ k,y j k=sm (fun i=>C i * z i k) r):q≤r:=by
 refine Nat.le_of_not_lt fun hlt=>?_
 have h' : ∀ j,∃ C:Nat→K,j < q→∀ k,y j k=sm (fun i=>C i * z i k) r:=fun j=>by
  by_cases hj:j < q
  ·obtain ⟨C,hC⟩:=h j hj; exact ⟨C,fun _=>hC⟩
  exact ⟨fun _=>0,fun hj2=>absurd hj2 hj⟩
 obtain ⟨C,hC⟩:=Classical.axiomOfChoice h'
 obtain ⟨x,⟨j0,hj0,hx0⟩,hx⟩:=xU F r fun i j=>C j i
 refine hx0 ?_
 have h2:=hy (fun j=>if j≤r then x j else 0) (fun k=>?_) j0 (by omega)
 ·rwa [if_pos hj0] at h2
 have e0:sm (fun j=>(if j≤r then x j else 0) * y j k) q=sm (fun j=>(if j≤r then x j else 0) * y j k) (r + 1):=by
  obtain ⟨d,rfl⟩:∃ d,q=r + 1 + d:=⟨q - (r + 1),by omega⟩
  clear hy hC hlt h h'
  induction d with
  | zero=>rfl
  | succ d ih =>
   rw [show r + 1 + (d + 1)=(r + 1 + d) + 1 by omega,sm,ih,if_neg (by omega)]; grind
 rw [e0]
 have e1:sm (fun j=>(if j≤r then x j else 0) * y j k) (r + 1)=sm (fun j=>sm (fun i=>C j i * x j * z i k) r) (r + 1):=al fun j hj=>by
  rw [if_pos (by omega),hC j (by omega) k,← aN]
  exact al fun i _=>by grind
 rw [e1,aX]
 refine aW fun i hi=>?_
 rw [bU,hx i hi]; grind
end
section
variable {K:Type} [CommRing K]
def sW (l:List Nat):Nat→(List Nat→K)→K
 | 0,h=>h []
 | k + 1,h=>sl l fun x=>sW l k fun w=>h (x :: w)
theorem jj {l:List Nat} {f g:Nat→K} (h:∀ x∈l,f x=g x):sl l f=sl l g:=by
 induction l with
 | nil=>rfl
 | cons x l ih=>rw [cA,cA,h x (by simp),ih fun y hy=>h y (by simp [hy])]
theorem wT {l:List Nat} {f:Nat→K} (h:∀ x∈l,f x=0):sl l f=0:=by
 induction l with
 | nil=>rfl
 | cons x l ih=>rw [cA,h x (by simp),ih fun y hy=>h y (by simp [hy])]; grind
theorem zw (l:List Nat) (f g:Nat→K):sl l (fun x=>f x + g x)=sl l f + sl l g:=by
 induction l with
 | nil=>simp only [sl,List.foldr_nil]; grind
 | cons x l ih=>simp only [cA,ih]; grind
theorem FH (k:K) (l:List Nat) (f:Nat→K):sl l (fun x=>k * f x)=k * sl l f:=by
 induction l with
 | nil=>simp only [sl,List.foldr_nil]; grind
 | cons x l ih=>simp only [cA,ih]; grind
theorem sy (l l' : List Nat) (f:Nat→Nat→K):sl l (fun x=>sl l' fun y=>f x y)=sl l' fun y=>sl l fun x=>f x y:=by
 induction l with
 | nil=>simp only [sl,List.foldr_nil]; exact (wT fun _ _=>rfl).symm
 | cons x l ih=>simp only [cA,ih,zw]
theorem eo {l:List Nat} : ∀ {k:Nat} {f g:List Nat→K},(∀ w,w.length=k→(∀ x∈w,x∈l)→f w=g w)→sW l k f=sW l k g
 | 0,f,g,h=>h [] rfl (by simp)
 | k + 1,f,g,h=>jj fun x hx=>eo fun w hw hl=>h (x :: w) (by simp [hw]) (by simp; exact ⟨hx,hl⟩)
theorem vk {l:List Nat} : ∀ {k:Nat} (f g:List Nat→K),sW l k (fun w=>f w + g w)=sW l k f + sW l k g
 | 0,f,g=>rfl
 | k + 1,f,g=>by
  simp only [sW,vk]
  rw [zw]
theorem p6 {l:List Nat} (c:K):∀ {k:Nat} (f:List Nat→K),sW l k (fun w=>c * f w)=c * sW l k f
 | 0,f=>rfl
 | k + 1,f=>by
  simp only [sW,p6]
  rw [FH]
theorem rJ {l:List Nat} : ∀ {k:Nat} (h:List Nat→K),sW l (k + 1) h=sl l fun x=>sW l k fun w=>h (w++[x])
 | 0,h=>rfl
 | k + 1,h=>by
  show sl l (fun x=>sW l (k + 1) fun w=>h (x :: w))=_
  have e:∀ x,sW l (k + 1) (fun w=>h (x :: w))=sl l fun y=>sW l k fun w=>h (x :: (w++[y])):=fun x=>rJ _
  rw [jj fun x _=>e x,sy]
  rfl
def jD:List Nat→List Nat
 | []=>[]
 | x :: w=>w++[x]
theorem G4 {l:List Nat} {k:Nat} (h:List Nat→K):sW l (k + 1) (fun w=>h (jD w))=sW l (k + 1) h:=by
 rw [rJ h]; rfl
def dg (x:Nat) (w:List Nat):Nat:=w.countP (· == x)
def oV (x:Nat):List Nat→K
 | []=>0
 | y :: w=>oV x w + (dg x w:Nat)
theorem uY (x:Nat) (u v:List Nat):dg x (u++v)=dg x u + dg x v:=by simp [dg]
theorem gX (x y:Nat) (w:List Nat):dg x (y :: w)=dg x w + if y=x then 1 else 0:=by
 simp [dg,List.countP_cons]
theorem q7 (x y:Nat):∀ w:List Nat,(oV x (w++[y]):K)=oV x w + (w.length:Nat) * (if y=x then 1 else 0:Nat)
 | []=>by
  simp only [List.nil_append,oV,dg,List.countP_nil,List.length_nil]; grind
 | z :: w=>by
  have h1:=q7 x y w
  simp only [List.cons_append,oV,h1,uY,List.length_cons]
  have h2:dg x [y]=if y=x then 1 else 0:=by simp [dg,List.countP_cons]
  rw [h2]
  split<;>grind
theorem A3 {p:Nat} (hp:(p:K)=0) {w:List Nat} (hw:w.length=p) (hw0:0 < p) (x:Nat):(oV x (jD w):K)=oV x w - (dg x w:Nat):=by
 cases w with
 | nil=>simp at hw; omega
 | cons y w =>
  simp only [jD,q7,oV,gX]
  simp only [List.length_cons] at hw
  have:((w.length:Nat):K) + 1=0:=by rw [← hp,← hw]; grind
  split<;>grind
theorem tL (x:Nat) (w:List Nat):dg x (jD w)=dg x w:=by
 cases w with
 | nil=>rfl
 | cons y w =>
  simp only [jD,uY,gX]
  simp [dg]
end
end Go.Proofs.YtjlmpmidchddjaaDoor
namespace Go.Proofs.YtjlmpmidchddjaaDoor
open Lean.Grind
attribute [local instance] Lean.Grind.Semiring.natCast Lean.Grind.Ring.intCast
section
variable {K:Type} [CommRing K]
theorem so (x:Nat) (w:List Nat):dg x w≤w.length:=List.countP_le_length
theorem qT {x:Nat} {w:List Nat} (h:dg x w=w.length):w=List.replicate w.length x:=by
 refine List.eq_replicate_iff.2 ⟨rfl,fun y hy=>?_⟩
 have:=List.countP_eq_length.1 h y hy
 simpa using this
theorem AP (x k:Nat):dg x (List.replicate k x)=k:=by simp [dg,List.countP_replicate]
theorem pb {x:Nat} {w:List Nat} : 0 < dg x w↔x∈w:=by
 unfold dg
 rw [List.countP_pos_iff]
 constructor
 ·rintro ⟨a,h1,h2⟩
  have:a=x:=by simpa using h2
  exact this ▸ h1
 intro h; exact ⟨x,h,by simp⟩
def nT (l w:List Nat):Nat:=(l.find? fun x=>decide (0 < dg x w)).getD 0
theorem xF (l w:List Nat):nT l (jD w)=nT l w:=by unfold nT; simp only [tL]
theorem w5 {l w:List Nat} (h:∃ x∈l,x∈w):nT l w∈w:=by
 unfold nT
 cases hf:l.find? fun x=>decide (0 < dg x w) with
 | none =>
  obtain ⟨x,h1,h2⟩:=h
  have:=List.find?_eq_none.1 hf x h1
  simp only [decide_eq_true_eq] at this
  exact absurd (pb.2 h2) this
 | some x =>
  have:=List.find?_some hf
  simp only [decide_eq_true_eq] at this
  exact pb.1 this
theorem yn {l:List Nat} (hl:l.Nodup) {x:Nat} (hx:x∈l) {f:Nat→K} (h:∀ y∈l,y ≠ x→f y=0):sl l f=f x:=by
 induction l with
 | nil=>simp at hx
 | cons y l ih =>
  obtain ⟨h1,h2⟩:=List.nodup_cons.1 hl
  rw [cA]
  by_cases e:y=x
  ·subst e
   rw [wT fun z hz=>h z (by simp [hz]) (fun e=>h1 (e ▸ hz))]; grind
  rw [ih h2 (by rcases List.mem_cons.1 hx with h | h; exact absurd h.symm e; exact h) fun z hz=>h z (by simp [hz]),h y (by simp) e]; grind
theorem AS {l:List Nat} (hl:l.Nodup) {x:Nat} (hx:x∈l):∀ (k:Nat) (h:List Nat→K),(sW l k fun w=>if dg x w=k then h w else 0)=h (List.replicate k x)
 | 0,h=>by simp [sW,dg]
 | k + 1,h=>by
  rw [sW,yn hl hx fun y hy hne=>?_]
  ·have e:∀ w:List Nat,(if dg x (x :: w)=k + 1 then h (x :: w) else 0)=if dg x w=k then h (x :: w) else 0:=fun w=>by
    rw [gX,if_pos rfl]
    by_cases e:dg x w=k
    ·rw [if_pos e,if_pos (by omega)]
    rw [if_neg e,if_neg (by omega)]
   simp only [e]
   rw [AS hl hx k fun w=>h (x :: w)]
   rfl
  have:=eo (l:=l) (k:=k) (f:=fun w=>if dg x (y :: w)=k + 1 then h (y :: w) else 0) (g:=fun _=>(0:K)) fun w hw _=>by
   rw [gX,if_neg hne,if_neg]
   have:=so x w
   omega
  rw [this]
  have h0:=p6 (l:=l) (0:K) (k:=k) fun _=>(0:K)
  have h1:(fun _:List Nat=>(0:K) * 0)=fun _=>0:=by funext w; grind
  rw [h1] at h0
  rw [h0]; grind
theorem rV (F:nt K) {p:Nat} (hp0:0 < p) (hp:(p:K)=0) (hc:∀ a:Nat,0 < a→a < p→(a:K) ≠ 0) {l:List Nat} (hl:l.Nodup) {f:List Nat→K} (hf:∀ w,f (jD w)=f w) :
  sW l p f=sl l fun x=>f (List.replicate p x):=by
 have hiv:∀ a:Nat,∃ b:K,0 < a→a < p→(a:K) * b=1:=fun a=>by
  by_cases h:0 < a∧a < p
  ·obtain ⟨b,hb⟩:=F.1 _ (hc a h.1 h.2)
   exact ⟨b,fun _ _=>hb⟩
  exact ⟨0,fun h1 h2=>absurd ⟨h1,h2⟩ h⟩
 obtain ⟨iv,hiv⟩:=Classical.axiomOfChoice hiv
 let g:List Nat→K:=fun w=>if dg (nT l w) w=p then 0 else iv (dg (nT l w) w) * f w
 have hg:∀ w,g (jD w)=g w:=fun w=>by simp only [g,xF,tL,hf]
 let f1:List Nat→K:=fun w=>if dg (nT l w) w=p then f w else 0
 have hsplit:∀ w,w.length=p→(∀ x∈w,x∈l)→f w=f1 w + (g w * oV (nT l w) w + (-1) * (g (jD w) * oV (nT l (jD w)) (jD w))):=fun w hw hwl=>by
  rw [hg,xF,A3 hp hw hp0]
  simp only [f1,g]
  have hne:∃ x∈l,x∈w:=by
   cases w with
   | nil=>simp at hw; omega
   | cons y w=>exact ⟨y,hwl y (by simp),by simp⟩
  have h1:=pb.2 (w5 hne)
  have h2:=so (nT l w) w
  by_cases e:dg (nT l w) w=p
  ·rw [if_pos e,if_pos e]; grind
  rw [if_neg e,if_neg e]
  have:=hiv (dg (nT l w) w) h1 (by omega)
  grind
 obtain ⟨k,rfl⟩:∃ k,p=k + 1:=⟨p - 1,by omega⟩
 rw [eo hsplit,vk,vk,p6]
 have h3:=G4 (l:=l) (k:=k) fun w=>g w * oV (nT l w) w
 rw [h3]
 have h4:sW l (k + 1) f1=sl l fun x=>f (List.replicate (k + 1) x):=by
  rw [sW]
  refine jj fun x hx=>?_
  have e:∀ w:List Nat,w.length=k→(∀ y∈w,y∈l)→f1 (x :: w)=if dg x w=k then f (x :: w) else 0:=fun w hw hwl=>by
   simp only [f1]
   have hne:∃ y∈l,y∈x :: w:=⟨x,hx,by simp⟩
   have h1:=w5 hne
   have h2:=so (nT l (x :: w)) (x :: w)
   by_cases e:dg x w=k
   ·have hw2:=qT (e.trans hw.symm)
    have:nT l (x :: w)=x:=by
     rcases List.mem_cons.1 h1 with h | h
     ·exact h
     exact (List.eq_replicate_iff.1 hw2).2 _ h
    rw [if_pos e,this,if_pos (by rw [gX,if_pos rfl,e])]
   rw [if_neg e]
   rw [if_neg fun h=>?_]
   have h5:=qT (x:=nT l (x :: w)) (w:=x :: w) (by rw [h,List.length_cons,hw])
   rw [List.length_cons,List.replicate_succ] at h5
   injection h5 with h6 h7
   rw [← h6] at h7
   rw [h7,AP] at e
   omega
  rw [eo e,AS hl hx k fun w=>f (x :: w)]
  rfl
 rw [h4]; grind
def BR (A:(Nat→K)→Nat→K):Prop:=(∀ u v,A (fun j=>u j + v j)=fun j=>A u j + A v j)∧∀ k u,A (fun j=>k * u j)=fun j=>k * A u j
def nF (A:(Nat→K)→Nat→K):Nat→(Nat→K)→Nat→K
 | 0,u=>u
 | k + 1,u=>A (nF A k u)
theorem BR.zero {A:(Nat→K)→Nat→K} (h:BR A):A (fun _=>0)=fun _=>0:=by
 have:=h.2 0 fun _=>0
 have e:(fun _:Nat=>(0:K) * 0)=fun _=>0:=by funext j; grind
 rw [e] at this
 rw [this]; funext j; grind
theorem BR.sm {A:(Nat→K)→Nat→K} (h:BR A) (c:Nat→K) (y:Nat→Nat→K):∀ n,A (fun j=>sm (fun i=>c i * y i j) n)=fun j=>Go.Proofs.YtjlmpmidchddjaaDoor.sm (fun i=>c i * A (y i) j) n
 | 0=>h.zero
 | n + 1=>by
  have e:(fun j=>Go.Proofs.YtjlmpmidchddjaaDoor.sm (fun i=>c i * y i j) (n + 1))=fun j=>(fun j=>Go.Proofs.YtjlmpmidchddjaaDoor.sm (fun i=>c i * y i j) n) j + (fun j=>c n * y n j) j:=rfl
  rw [e,h.1,h.2,BR.sm h c y n]
  rfl
def DB (A:(Nat→K)→Nat→K) (p:Nat) (v:K) (u:Nat→K) (j:Nat):K:=u j - sm (fun k=>v ^ (p - 1 - k) * nF A k u j) p
theorem Dl {A:(Nat→K)→Nat→K} (h:BR A) {p:Nat} (hp:0 < p) {v:K} (hv:v ^ p=v) {u:Nat→K} (hu:nF A p u=A u) (j:Nat):A (DB A p v u) j=v * DB A p v u j:=by
 have e:DB A p v u=fun j=>u j + (-1) * (fun j=>sm (fun k=>v ^ (p - 1 - k) * nF A k u j) p) j:=by funext j; unfold DB; grind
 rw [e,h.1,h.2,h.sm]
 show A u j + -1 * sm (fun k=>v ^ (p - 1 - k) * A (nF A k u) j) p=v * (u j + -1 * sm (fun k=>v ^ (p - 1 - k) * nF A k u j) p)
 have tel:∀ q,q≤p→sm (fun k=>v ^ (p - 1 - k) * A (nF A k u) j) q - v * sm (fun k=>v ^ (p - 1 - k) * nF A k u j) q=v ^ (p - q) * nF A q u j - v ^ p * u j:=by
  intro q
  induction q with
  | zero=>intro _; simp only [sm,nF,Nat.sub_zero]; grind
  | succ q ih =>
   intro hq
   have h1:=ih (by omega)
   simp only [sm]
   have h2:v ^ (p - q)=v ^ (p - 1 - q) * v:=by rw [show p - q=(p - 1 - q) + 1 by omega,Semiring.pow_succ]
   have h3:p - (q + 1)=p - 1 - q:=by omega
   rw [h3]
   show _=v ^ (p - 1 - q) * A (nF A q u) j - _
   rw [h2] at h1
   grind
 have h1:=tel p (Nat.le_refl _)
 rw [Nat.sub_self,Semiring.pow_zero,hu,hv] at h1
 grind
def JJ (K:Type) [CommRing K] (p:Nat):Prop:=∀ j,j≤p - 1→sm (fun v=>((v:Nat):K) ^ j) p=if j=p - 1 then -1 else 0
theorem CC {A:(Nat→K)→Nat→K} {p:Nat} (hp:2≤p) (hp0:(p:K)=0) (hs:JJ K p) (u:Nat→K) (j:Nat):sm (fun v=>DB A p ((v:Nat):K) u j) p=u j:=by
 unfold DB
 rw [kQ,dT,hp0,aX]
 have e:∀ k,k < p→sm (fun v=>((v:Nat):K) ^ (p - 1 - k) * nF A k u j) p=(if k=0 then -1 else 0) * nF A k u j:=fun k hk=>by
  rw [bU,hs _ (by omega)]
  by_cases h:k=0
  ·rw [if_pos h,if_pos (by omega)]
  rw [if_neg h,if_neg (by omega)]
 rw [al e,bj (i:=0) (by omega) fun k hk hne=>by show (if k=0 then (-1:K) else 0) * nF A k u j=0; rw [if_neg hne]; grind]
 show 0 * u j - (if 0=0 then (-1:K) else 0) * u j=u j
 rw [if_pos rfl]; grind
end
end Go.Proofs.YtjlmpmidchddjaaDoor
