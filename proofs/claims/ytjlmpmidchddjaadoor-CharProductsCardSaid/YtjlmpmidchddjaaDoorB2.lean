/-
  Texts of this proof, one behind the other: what each says stands at its head. Conditions: none.
-/
import Derived.Test.YtjlmpmidchddjaaDoorB1
import Derived.ProofKit
import Derived.OpenShut
import Derived.ChangeCalls
import Derived.SizedLaws
set_option linter.all false
namespace Go.Pv
open Go.RowKit
theorem Rel.congr {C:Ctx} {m:Map} {s s2:St} {tmps:Array Value} {w:World} (h:Rel C m s tmps w) (h1:∀ t,s2.get t=s.get t) (h2:s2.H=s.H) (h3:s2.n=s.n):Rel C m s2 tmps w:=by
 refine ⟨by rw [h2]; exact h.laid,h.below,h.base,by rw [h3]; exact h.size,?_,?_,?_,fun t=>?_,by rw [h2]; exact h.mp⟩
 ·rw [h2]; exact h.inj
 ·rw [h2]; exact h.blk
 ·rw [h2]; exact h.fro
 rw [h1,h2]; exact h.slot t
section
variable {P:Program} {ops:Array Oper}
structure Out where
 av:AV
 H:aw
def sD (ops:Array Oper) (out:Nat→Out) (s:St) (D:Nat→Bool):Nat→St
 | 0=>s
 | k + 1=>if D k then ({ sD ops out s D k with H:=if kG (bK ops k).op then (out k).H else (sD ops out s D k).H } : St).put (bK ops k).dst (out k).av else sD ops out s D k
theorem eN (s:St) (d:Option Nat) (x:AV) (t:Nat):(s.put d x).get t=if d=some t then x else s.get t:=by
 cases d with
 | none=>simp [St.put]
 | some d =>
  by_cases h:d=t
  ·subst h; simp [St.put,St.get,lk]
  simp [St.put,St.get,lk,h,show (d == t)=false by simpa using h]
theorem r6 (out:Nat→Out) (s:St) (D:Nat→Bool):∀ k,(sD ops out s D k).n=s.n
 | 0=>rfl
 | k + 1=>by
  simp only [sD]
  split
  ·rw [St.jR]; exact r6 out s D k
  exact r6 out s D k
theorem jb (out:Nat→Out) (s:St) (D:Nat→Bool) (k t:Nat):(sD ops out s D (k + 1)).get t=if D k=true∧(bK ops k).dst=some t then (out k).av else (sD ops out s D k).get t:=by
 simp only [sD]
 by_cases h:D k=true
 ·rw [if_pos h,eN]
  by_cases hd:(bK ops k).dst=some t
  ·have hr:D k=true∧(bK ops k).dst=some t:=⟨h,hd⟩
   rw [if_pos hd,if_pos hr]
  have hr:¬ (D k=true∧(bK ops k).dst=some t):=fun hh=>hd hh.2
  rw [if_neg hd,if_neg hr]; rfl
 have hr:¬ (D k=true∧(bK ops k).dst=some t):=fun hh=>h hh.1
 rw [if_neg h,if_neg hr]
theorem uv (out:Nat→Out) (s:St) (D:Nat→Bool) (k:Nat):(sD ops out s D (k + 1)).H=if D k=true∧kG (bK ops k).op=true then (out k).H else (sD ops out s D k).H:=by
 simp only [sD]
 by_cases h:D k=true
 ·rw [if_pos h,St.gi]
  by_cases hd:kG (bK ops k).op=true
  ·have hr:D k=true∧kG (bK ops k).op=true:=⟨h,hd⟩
   rw [if_pos hr]; simp only [hd,if_true]
  have hr:¬ (D k=true∧kG (bK ops k).op=true):=fun hh=>hd hh.2
  rw [if_neg hr]; simp only [hd,Bool.false_eq_true,if_false]
 have hr:¬ (D k=true∧kG (bK ops k).op=true):=fun hh=>h hh.1
 rw [if_neg h,if_neg hr]
theorem mG (out : Nat → Out) (s : St) (D : Nat → Bool) (t : Nat) : ∀ k n, k ≤ n → (∀ i, k ≤ i → i < n → D i = true → (bK ops i).dst ≠ some t) → (sD ops out s D n).get t = (sD ops out s D k).get t := by
  intro k n hkn h
  induction n with
  | zero => obtain rfl : k = 0 := by omega
            rfl
  | succ n ih =>
    by_cases hk : k = n + 1
    · rw [hk]
    · rw [jb, if_neg (fun hh => h n (by omega) (by omega) hh.1 hh.2)]
      exact ih (by omega) fun i h1 h2 => h i h1 (by omega)
theorem qH (out : Nat → Out) (s : St) (D : Nat → Bool) : ∀ k n, k ≤ n → (∀ i, k ≤ i → i < n → D i = true → kG (bK ops i).op = false) → (sD ops out s D n).H = (sD ops out s D k).H := by
  intro k n hkn h
  induction n with
  | zero => obtain rfl : k = 0 := by omega
            rfl
  | succ n ih =>
    by_cases hk : k = n + 1
    · rw [hk]
    · rw [uv, if_neg (fun hh => by have := h n (by omega) (by omega) hh.1; rw [this] at hh; simp at hh)]
      exact ih (by omega) fun i h1 h2 => h i h1 (by omega)
theorem iZ (out:Nat→Out) (s:St) (D D' : Nat→Bool) (t:Nat):∀ k,(∀ i,i < k→(bK ops i).dst=some t→D i=D' i)→(sD ops out s D k).get t=(sD ops out s D' k).get t:=by
 intro k h
 induction k with
 | zero=>rfl
 | succ k ih =>
  rw [jb,jb,ih fun i hi=>h i (by omega)]
  by_cases hd:(bK ops k).dst=some t
  ·rw [h k (by omega) hd]
  rw [if_neg (fun hh=>hd hh.2),if_neg (fun hh=>hd hh.2)]
theorem l6 (out:Nat→Out) (s:St) (D D' : Nat→Bool):∀ k,(∀ i,i < k→kG (bK ops i).op=true→D i=D' i)→(sD ops out s D k).H=(sD ops out s D' k).H:=by
 intro k h
 induction k with
 | zero=>rfl
 | succ k ih =>
  rw [uv,uv,ih fun i hi=>h i (by omega)]
  by_cases hd:kG (bK ops k).op=true
  ·rw [h k (by omega) hd]
  rw [if_neg (fun hh=>hd hh.2),if_neg (fun hh=>hd hh.2)]
structure Fact (P:Program) (ops:Array Oper) (out:Nat→Out) (s:St) (j:Nat) (o:Oper):Prop where
 dst:∀ t,o.dst=some t→t < s.n
 how:(bt ops (sD ops out s (fun _=>true) j) o=some false∧(out j).av = .p (.tup [])∧kG o.op=false) ∨
  (bt ops (sD ops out s (fun _=>true) j) o=some true∧BK P o (sD ops out s (fun _=>true) j) (out j).av (out j).H)
theorem nb.facts:∀ (l:List Oper) (k:Nat) (pre:Nat→Out) (s s1 s' : St),(∀ i,l[i]? = ops[k + i]?)→k + l.length=ops.size→(∀ t,s1.get t=(sD ops pre s (fun _=>true) k).get t)→s1.H=(sD ops pre s (fun _=>true) k).H→s1.n=s.n →
  (∀ o∈l,o.guard ≠ none→kG o.op=false) →
  nb P true ops l s1 s'→∃ out:Nat→Out,(∀ i,i < k→out i=pre i)∧(∀ i o,k≤i→ops[i]? = some o→Fact P ops out s i o)∧(∀ t,s'.get t=(sD ops out s (fun _=>true) ops.size).get t)∧s'.H=(sD ops out s (fun _=>true) ops.size).H∧s'.n=s.n
 | [],k,pre,s,s1,s',hl,hk,hg,hH,hn,_,hr=>by
  cases hr
  simp at hk
  subst hk
  refine ⟨pre,fun _ _=>rfl,fun i o hi ho=>?_,hg,hH,hn⟩
  have:=(Array.getElem?_eq_some_iff.1 ho).1
  omega
 | o :: r,k,pre,s,s1,s',hl,hk,hg,hH,hn,hgw,hr=>by
  have ho:ops[k]? = some o:=by have:=hl 0; simpa using this.symm
  have hod:bK ops k=o:=eP ho
  have sDpre:∀ (x:Out) (j:Nat),j≤k→sD ops (fun i=>if i=k then x else pre i) s (fun _=>true) j=sD ops pre s (fun _=>true) j:=by
   intro x j hj
   induction j with
   | zero=>rfl
   | succ j ih =>
    simp only [sD]
    rw [ih (by omega),if_neg (by omega:¬ j=k)]
  have hgs:∀ b,bt ops s1 o=some b→bt ops (sD ops pre s (fun _=>true) k) o=some b:=by
   intro b h
   unfold bt at h ⊢
   simp only [hg] at h
   exact h
  cases hr with
  | cons h hr =>
   have next:∀ (x:Out) (sn:St),(∀ t,sn.get t=if o.dst=some t then x.av else s1.get t)→(sn.H=if kG o.op=true then x.H else s1.H)→sn.n=s1.n→nb P true ops r sn s' →
     Fact P ops (fun i=>if i=k then x else pre i) s k o →
     ∃ out:Nat→Out,(∀ i,i < k→out i=pre i)∧(∀ i o,k≤i→ops[i]? = some o→Fact P ops out s i o)∧(∀ t,s'.get t=(sD ops out s (fun _=>true) ops.size).get t)∧s'.H=(sD ops out s (fun _=>true) ops.size).H∧s'.n=s.n:=by
    intro x sn h1 h2 h3 hrn hf
    obtain ⟨out,g1,g2,g3⟩:=nb.facts r (k + 1) (fun i=>if i=k then x else pre i) s sn s' (fun i=>by have:=hl (i + 1); simp only [List.getElem?_cons_succ] at this; rw [this]; congr 1; omega) (by simp at hk; omega)
     (fun t=>by rw [h1,jb,hod,sDpre x k (Nat.le_refl _),hg]; simp) (by rw [h2,uv,hod,sDpre x k (Nat.le_refl _),hH]; simp) (by rw [h3,hn]) (fun o ho=>hgw o (by simp [ho])) hrn
    refine ⟨out,fun i hi=>?_,fun i o' hi ho'=>?_,g3⟩
    ·rw [g1 i (by omega),if_neg (by omega)]
    by_cases hik:i=k
    ·subst hik
     rw [ho] at ho'; cases ho'
     have e1:∀ j,j≤i→sD ops out s (fun _=>true) j=sD ops (fun i'=>if i' = i then x else pre i') s (fun _=>true) j:=by
      intro j hj
      induction j with
      | zero=>rfl
      | succ j ih=>simp only [sD]; rw [ih (by omega),g1 j (by omega)]
     have e2:out i=(fun i'=>if i' = i then x else pre i') i:=g1 i (by omega)
     refine ⟨hf.dst,?_⟩
     have:=hf.how
     rw [e1 i (Nat.le_refl _),e2]
     exact this
    exact g2 i o' (by omega) ho'
   cases h with
   | skip hgd hd =>
    have hgn:o.guard ≠ none:=by
     intro e
     unfold bt at hgd
     rw [e] at hgd
     simp at hgd
    have hw:=hgw o (by simp) hgn
    refine next ⟨.p (.tup []),s1.H⟩ _ (fun t=>eN _ _ _ _) (by rw [St.gi]; simp) (St.jR _ _ _) hr ⟨fun t ht=>by rw [← hn]; exact hd t ht,.inl ⟨?_,by simp,hw⟩⟩
    rw [sDpre _ k (Nat.le_refl _)]
    exact hgs false hgd
   | op av H' hgd hd hdo hloc =>
    have hloc:=hloc rfl
    have hag:∀ (s2:St),(∀ t,s2.get t=(sD ops pre s (fun _=>true) k).get t)→∀ x,s2.ev x=s1.ev x:=by
     intro s2 h2 x
     cases x<;>simp only [St.ev]
     rw [h2,hg]
    refine next ⟨av,H'⟩ (({ s1 with H:=H' } : St).put o.dst av) (fun t=>by rw [eN]; rfl) (by
      rw [St.gi]
      by_cases hw:kG o.op=true
      ·rw [if_pos hw]
      rw [if_neg hw]; exact hloc.calm (by simpa using hw)) (St.jR _ _ _) hr ⟨fun t ht=>by rw [← hn]; exact hd t ht,.inr ⟨?_,?_⟩⟩
    ·rw [sDpre _ k (Nat.le_refl _)]; exact hgs true hgd
    rw [sDpre _ k (Nat.le_refl _)]
    simp only [if_true]
    have hev:∀ x,(sD ops pre s (fun _=>true) k).ev x=s1.ev x:=hag _ fun _=>rfl
    have hnn:(sD ops pre s (fun _=>true) k).n=s1.n:=by rw [r6,hn]
    refine ⟨fun s2 h1 h2 h3=>hloc.here s2 (h1.trans hnn) (fun x hx=>(h2 x hx).trans (hev x)) (h3.trans hH.symm),fun hf=>?_,fun hw=>by rw [← hH]; exact hloc.calm hw⟩
    obtain ⟨e1,e2⟩:=hloc.free hf
    exact ⟨by rw [← hH]; exact e1,fun s2 h1 h2=>e2 s2 (h1.trans hnn) (fun x hx=>(h2 x hx).trans (hev x))⟩
theorem xi {o:Op} (h:kG o=true):jx o=true:=by
 unfold kG at h
 split at h<;>first|rfl|cases h
theorem tK (h:rE ops=true):(∀ j o,ops[j]? = some o→∀ e∈o.after.toList,Region.binds .any e=true→e.on < j) ∧
  ∀ i j oi oj,i < j→ops[i]? = some oi→ops[j]? = some oj→fU ops oi oj=false→((dt ops).getD j 0).testBit i=true:=by
 unfold rE at h
 rw [List.all_eq_true] at h
 constructor
 ·intro j o ho e he hb
  have hj:=(Array.getElem?_eq_some_iff.1 ho).1
  have:=h j (by simpa using hj)
  rw [Bool.and_eq_true] at this
  have h1:=(List.all_eq_true.1 this.1) e (by rw [eP ho]; exact he)
  rw [hb] at h1
  simpa using h1
 intro i j oi oj hij hi hj ha
 have hj':=(Array.getElem?_eq_some_iff.1 hj).1
 have:=h j (by simpa using hj')
 rw [Bool.and_eq_true] at this
 have h1:=(List.all_eq_true.1 this.2) i (by simpa using hij)
 rw [eP hi,eP hj,ha,Bool.false_or] at h1
 exact h1
theorem vq {Q:Exit→Act→World→Prop} {C:Ctx} {ds:List Deferred} {s s' : St} (hok:rE ops=true) (hgw:∀ o∈ops.toList,o.guard ≠ none→kG o.op=false) (hrun:nb P true ops ops.toList s s') {m:Map} {a:Act} {w:World} (R:Rel C m s a.tmps w) (hd:a.defers=ds)
  (hQ:∀ m' (a' : Act) w',Rel C m' s' a'.tmps w'→a'.defers=ds→Q .normal a' w'):ns P .any ops Q ops.size (Array.replicate ops.size false) a w:=by
 obtain ⟨hedge,hconf⟩:=tK hok
 obtain ⟨out,_,hfact,hget',hH',hn'⟩:=nb.facts (ops:=ops) ops.toList 0 (fun _=>⟨.dead,[]⟩) s s s' (fun i=>by simp) (by simp) (fun _=>rfl) rfl rfl hgw hrun
 have hfact:∀ i o,ops[i]? = some o→Fact P ops out s i o:=fun i o=>hfact i o (Nat.zero_le _)
 have key:∀ (fuel:Nat) (listed:Array Bool) (m:Map) (a:Act) (w:World),listed.size=ops.size→(List.range ops.size).countP (fun i=>!listed.getD i true)=fuel →
   (∀ j o,listed.getD j false=true→ops[j]? = some o→∀ e∈o.after.toList,Region.binds .any e=true→listed.getD e.on false=true) →
   Rel C m (sD ops out s (fun i=>listed.getD i false) ops.size) a.tmps w→a.defers=ds→ns P .any ops Q fuel listed a w:=by
  intro fuel
  induction fuel with
  | zero =>
   intro listed m a w hsz hcnt hcl R hd
   have hall:∀ i,i < ops.size→listed.getD i true=true:=by
    intro i hi
    have:=List.countP_eq_zero.1 hcnt i (by simpa using hi)
    simpa using this
   refine ⟨?_,hQ m a w (R.congr (fun t=>?_) ?_ ?_) hd⟩
   ·unfold Region.ready
    rw [List.filter_eq_nil_iff]
    intro i hi
    have:=hall i (by simpa using hi)
    simp [this]
   ·rw [hget']
    refine (iZ out s _ _ t _ fun i hi _=>?_).symm
    have:=hall i hi
    simp [Array.getD_eq_getD_getElem?,Array.getElem?_eq_getElem (show i < listed.size by omega)] at this ⊢
    exact this
   ·rw [hH']
    refine (l6 out s _ _ _ fun i hi _=>?_).symm
    have:=hall i hi
    simp [Array.getD_eq_getD_getElem?,Array.getElem?_eq_getElem (show i < listed.size by omega)] at this ⊢
    exact this
   rw [r6,hn']
  | succ fuel ih =>
   intro listed m a w hsz hcnt hcl R hd
   refine ⟨fun hnil=>?_,fun j hj=>?_⟩
   ·
    exfalso
    have hex:∃ i,i < ops.size∧listed.getD i true=false:=by
     have:0 < (List.range ops.size).countP (fun i=>!listed.getD i true):=by omega
     obtain ⟨i,hi,h⟩:=List.countP_pos_iff.1 this
     exact ⟨i,by simpa using hi,by simpa using h⟩
    have hmin:∃ i,i < ops.size∧listed.getD i true=false∧∀ k,k < i→listed.getD k true=true:=by
     obtain ⟨i,hi,h⟩:=hex
     induction i using Nat.strongRecOn with
     | _ i ihh =>
      by_cases hall:∀ k,k < i→listed.getD k true=true
      ·exact ⟨i,hi,h,hall⟩
      simp only [Classical.not_forall] at hall
      obtain ⟨k,hk,hkn⟩:=hall
      exact ihh k hk (by omega) (by simpa using hkn)
    obtain ⟨i,hi,hli,hbelow⟩:=hmin
    have hmem:i∈Region.ready .any ops listed:=by
     unfold Region.ready
     rw [List.mem_filter]
     refine ⟨by simpa using hi,?_⟩
     rw [hli,Array.getElem?_eq_getElem hi]
     simp only [Bool.not_false,Bool.true_and,Option.map_some,Option.getD_some]
     rw [Array.all_eq_true_iff_forall_mem]
     intro e he
     by_cases hb:Region.binds .any e=true
     ·have hlt:=hedge i ops[i] (Array.getElem?_eq_getElem hi) e (by simpa using he) hb
      have:=hbelow e.on hlt
      have hlt' : e.on < listed.size:=by omega
      simp [Array.getD_eq_getD_getElem?,Array.getElem?_eq_getElem hlt'] at this ⊢
      simp [this]
     simp [hb]
    rw [hnil] at hmem
    simp at hmem
   unfold Region.ready at hj
   rw [List.mem_filter] at hj
   obtain ⟨hjlt,hj⟩:=hj
   have hjlt:j < ops.size:=by simpa using hjlt
   have hoj:ops[j]? = some ops[j]:=Array.getElem?_eq_getElem hjlt
   generalize ops[j]=o at hoj
   rw [hoj] at hj
   simp only [Option.map_some,Option.getD_some,Bool.and_eq_true,Bool.not_eq_eq_eq_not,Bool.not_true] at hj
   obtain ⟨hnl,hal⟩:=hj
   have hjls:j < listed.size:=by omega
   have hnl' : listed.getD j false=false:=by
    simp [Array.getD_eq_getD_getElem?,Array.getElem?_eq_getElem hjls] at hnl ⊢
    exact hnl
   have hpre:∀ e∈o.after.toList,Region.binds .any e=true→listed.getD e.on false=true:=by
    intro e he hb
    have:=(Array.all_eq_true_iff_forall_mem.1 hal) e (by simpa using he)
    rw [hb] at this
    simpa using this
   have hanc:∀ i,((dt ops).getD j 0).testBit i=true→listed.getD i false=true:=
    sb (D:=fun i=>listed.getD i false=true) hcl j j o (Nat.le_refl _) hoj hpre
   have hanc' : ∀ i,listed.getD i false=true→∀ oi,ops[i]? = some oi→∀ k,((dt ops).getD i 0).testBit k=true→listed.getD k false=true:=
    fun i hi oi hoi=>sb (D:=fun i=>listed.getD i false=true) hcl i i oi (Nat.le_refl _) hoi (hcl i oi hi hoi)
   have hod:bK ops j=o:=eP hoj
   have low:∀ i,i < j→fU ops (bK ops i) o=false→listed.getD i false=true:=by
    intro i hi ha
    have hoi:ops[i]? = some ops[i]:=Array.getElem?_eq_getElem (by omega)
    refine hanc i (hconf i j ops[i] o hi hoi hoj ?_)
    rwa [eP hoi] at ha
   have high:∀ i,j < i→i < ops.size→listed.getD i false=true→fU ops o (bK ops i)=true:=by
    intro i hi hlt hli
    have hoi:ops[i]? = some ops[i]:=Array.getElem?_eq_getElem hlt
    have e:bK ops i=ops[i]:=eP hoi
    rw [e]
    by_cases ha:fU ops o ops[i]=true
    ·exact ha
    have:=hanc' i hli ops[i] hoi j (hconf j i o ops[i] hi hoj hoi (by simpa using ha))
    rw [this] at hnl'; cases hnl'
   have agree:∀ t,t∈o.looksAt ops→(sD ops out s (fun i=>listed.getD i false) ops.size).get t=(sD ops out s (fun _=>true) j).get t:=by
    intro t ht
    rw [mG out s _ t j ops.size (by omega) (fun i h1 h2 h3 h4=>?_)]
    ·refine iZ out s _ _ t j fun i hi hdi=>?_
     rw [low i hi ?_]
     rw [Bool.eq_false_iff]
     intro hap
     unfold fU at hap
     rw [Bool.and_eq_true,Bool.and_eq_true] at hap
     exact (Oper.apart_spec hap.1.1).1 t hdi ht
    by_cases hij:i=j
    ·subst hij; rw [hnl'] at h3; cases h3
    have hap:=high i (by omega) h2 h3
    unfold fU at hap
    rw [Bool.and_eq_true,Bool.and_eq_true] at hap
    exact (Oper.apart_spec hap.1.1).2.2 t h4 ht
   have agreeH:jx o.op=true→(sD ops out s (fun i=>listed.getD i false) ops.size).H=(sD ops out s (fun _=>true) j).H:=by
    intro hT
    rw [qH out s _ j ops.size (by omega) (fun i h1 h2 h3=>?_)]
    ·refine l6 out s _ _ j fun i hi hwi=>?_
     rw [low i hi ?_]
     rw [Bool.eq_false_iff]
     intro hap
     unfold fU at hap
     simp [hwi,hT] at hap
    by_cases hij:i=j
    ·subst hij; rw [hnl'] at h3; cases h3
    have hap:=high i (by omega) h2 h3
    unfold fU at hap
    simp only [hT,Bool.true_and,Bool.and_eq_true,Bool.not_eq_eq_eq_not,Bool.not_true] at hap
    exact hap.2
   have hlist:∀ i,(listed.setIfInBounds j true).getD i false=if i=j then true else listed.getD i false:=by
    intro i
    simp only [Array.getD_eq_getD_getElem?]
    by_cases hij:i=j
    ·subst hij; rw [Array.getElem?_setIfInBounds_self_of_lt hjls,if_pos rfl]; rfl
    rw [Array.getElem?_setIfInBounds_ne (Ne.symm hij),if_neg hij]
   have insertGet:∀ t,(sD ops out s (fun i=>(listed.setIfInBounds j true).getD i false) ops.size).get t=if o.dst=some t then (out j).av else (sD ops out s (fun i=>listed.getD i false) ops.size).get t:=by
    intro t
    have base:∀ k,k≤j→(sD ops out s (fun i=>(listed.setIfInBounds j true).getD i false) k).get t=(sD ops out s (fun i=>listed.getD i false) k).get t:=fun k hk =>
     iZ out s _ _ t k fun i hi _=>by rw [hlist,if_neg (by omega)]
    have step:∀ n,j + 1≤n→n≤ops.size→(sD ops out s (fun i=>(listed.setIfInBounds j true).getD i false) n).get t=if o.dst=some t then (out j).av else (sD ops out s (fun i=>listed.getD i false) n).get t:=by
     intro n hn hns
     induction n with
     | zero=>omega
     | succ n ihn =>
      by_cases hnj:n=j
      ·subst hnj
       rw [jb,jb,hod,base n (Nat.le_refl _),hlist,if_pos rfl,hnl']
       by_cases hdt:o.dst=some t
       ·simp [hdt]
       simp [hdt]
      rw [jb,jb,ihn (by omega) (by omega),hlist,if_neg hnj]
      by_cases hln:listed.getD n false=true∧(bK ops n).dst=some t
      ·rw [if_pos hln,if_pos hln]
       have hap:=high n (by omega) (by omega) hln.1
       unfold fU at hap
       rw [Bool.and_eq_true,Bool.and_eq_true] at hap
       by_cases hdt:o.dst=some t
       ·exact absurd hln.2 ((Oper.apart_spec hap.1.1).2.1 t hdt)
       rw [if_neg hdt]
      rw [if_neg hln,if_neg hln]
    exact step ops.size (by omega) (Nat.le_refl _)
   have insertH:(sD ops out s (fun i=>(listed.setIfInBounds j true).getD i false) ops.size).H=if kG o.op=true then (out j).H else (sD ops out s (fun i=>listed.getD i false) ops.size).H:=by
    have base:∀ k,k≤j→(sD ops out s (fun i=>(listed.setIfInBounds j true).getD i false) k).H=(sD ops out s (fun i=>listed.getD i false) k).H:=fun k hk =>
     l6 out s _ _ k fun i hi _=>by rw [hlist,if_neg (by omega)]
    have step:∀ n,j + 1≤n→n≤ops.size→(sD ops out s (fun i=>(listed.setIfInBounds j true).getD i false) n).H=if kG o.op=true then (out j).H else (sD ops out s (fun i=>listed.getD i false) n).H:=by
     intro n hn hns
     induction n with
     | zero=>omega
     | succ n ihn =>
      by_cases hnj:n=j
      ·subst hnj
       rw [uv,uv,hod,base n (Nat.le_refl _),hlist,if_pos rfl,hnl']
       by_cases hdt:kG o.op=true
       ·simp [hdt]
       simp [hdt]
      rw [uv,uv,ihn (by omega) (by omega),hlist,if_neg hnj]
      by_cases hln:listed.getD n false=true∧kG (bK ops n).op=true
      ·rw [if_pos hln,if_pos hln]
       have hap:=high n (by omega) (by omega) hln.1
       unfold fU at hap
       by_cases hdt:kG o.op=true
       ·simp [hdt,xi hln.2] at hap
       rw [if_neg hdt]
      rw [if_neg hln,if_neg hln]
    exact step ops.size (by omega) (Nat.le_refl _)
   have hcnt' : (List.range ops.size).countP (fun i=>!(listed.setIfInBounds j true).getD i true)=fuel:=by
    have hsplit:∀ (l:List Nat),l.Nodup→j∈l→l.countP (fun i=>!listed.getD i true)=l.countP (fun i=>!(listed.setIfInBounds j true).getD i true) + 1:=by
     intro l
     induction l with
     | nil=>intro _ h; simp at h
     | cons x r ihl =>
      intro hnd hmem
      have hx:∀ i,i ≠ j→(listed.setIfInBounds j true).getD i true=listed.getD i true:=by
       intro i hi
       simp only [Array.getD_eq_getD_getElem?]
       rw [Array.getElem?_setIfInBounds_ne (Ne.symm hi)]
      rw [List.nodup_cons] at hnd
      by_cases hxj:x=j
      ·subst hxj
       have e1:(listed.setIfInBounds x true).getD x true=true:=by
        simp only [Array.getD_eq_getD_getElem?]
        rw [Array.getElem?_setIfInBounds_self_of_lt hjls]; rfl
       rw [List.countP_cons,List.countP_cons,hnl,e1]
       have:r.countP (fun i=>!listed.getD i true)=r.countP (fun i=>!(listed.setIfInBounds x true).getD i true):=by
        apply List.countP_congr
        intro i hi
        rw [hx i (fun e=>hnd.1 (e ▸ hi))]
       simp only [this,Bool.not_false,Bool.not_true,if_true,Bool.false_eq_true,if_false,Nat.add_zero]
      rw [List.countP_cons,List.countP_cons,hx x hxj,ihl hnd.2 (by rcases List.mem_cons.1 hmem with h | h; exact absurd h.symm hxj; exact h)]
      omega
    have:=hsplit (List.range ops.size) List.nodup_range (by simpa using hjlt)
    omega
   have hcl' : ∀ i oi,(listed.setIfInBounds j true).getD i false=true→ops[i]? = some oi→∀ e∈oi.after.toList,Region.binds .any e=true→(listed.setIfInBounds j true).getD e.on false=true:=by
    intro i oi hi hoi e he hb
    rw [hlist] at hi ⊢
    by_cases hij:i=j
    ·subst hij
     rw [hoj] at hoi; cases hoi
     rw [hpre e he hb]; simp
    rw [if_neg hij] at hi
    rw [hcl i oi hi hoi e he hb]; simp
   have next:∀ (m' : Map) (a' : Act) (w' : World),(∃ s2:St,Rel C m' s2 a'.tmps w'∧(∀ t,s2.get t=if o.dst=some t then (out j).av else (sD ops out s (fun i=>listed.getD i false) ops.size).get t) ∧
      (s2.H=if kG o.op=true then (out j).H else (sD ops out s (fun i=>listed.getD i false) ops.size).H)∧s2.n=s.n)→a'.defers=ds→ns P .any ops Q fuel (listed.setIfInBounds j true) a' w':=by
    rintro m' a' w' ⟨s2,R2,e1,e2,e3⟩ hd'
    refine ih _ m' a' w' (by simpa using hsz) hcnt' hcl' (R2.congr (fun t=>?_) ?_ ?_) hd'
    ·rw [insertGet,e1]
    ·rw [insertH,e2]
    rw [r6,e3]
   have hgd:∀ b,bt ops (sD ops out s (fun _=>true) j) o=some b→bt ops (sD ops out s (fun i=>listed.getD i false) ops.size) o=some b:=by
    intro b h
    unfold bt at h ⊢
    split at h
    ·exact h
    rename_i g want e
    split at h
    ·rename_i d hdd
     have:(sD ops out s (fun i=>listed.getD i false) ops.size).get d=(sD ops out s (fun _=>true) j).get d:=agree d (by
      unfold Oper.looksAt
      rw [e]
      simp [hdd])
     rw [this]
     exact h
    cases h
   have hsn:(sD ops out s (fun i=>listed.getD i false) ops.size).n=s.n:=r6 _ _ _ _
   obtain ⟨fd,fh⟩:=hfact j o hoj
   unfold HQ
   rw [hoj]
   simp only
   rcases fh with ⟨hg,hdead,hw⟩ | ⟨hg,hloc⟩
   ·rw [cW (P:=P) R (hgd _ hg)]
    simp only [Bool.false_eq_true,if_false]
    refine next m _ w ⟨_,R.put (fun t ht=>by rw [hsn]; exact fd t ht) (.p _ _ ou),fun t=>?_,?_,?_⟩ (by rw [put_defers]; exact hd)
    ·rw [eN,hdead]
    ·rw [St.gi,hw]; simp
    rw [St.jR,hsn]
   rw [cW (P:=P) R (hgd _ hg)]
   simp only [if_true]
   left
   have hag:fq o (sD ops out s (fun _=>true) j) (sD ops out s (fun i=>listed.getD i false) ops.size):=by
    intro x hx
    cases x with
    | tmp t =>
     simp only [St.ev]
     refine agree t ?_
     unfold Oper.looksAt
     rw [List.mem_append]
     left
     rw [List.mem_filterMap]
     exact ⟨.tmp t,by simpa using hx,rfl⟩
    | _=>rfl
   have hn2:(sD ops out s (fun i=>listed.getD i false) ops.size).n=(sD ops out s (fun _=>true) j).n:=by rw [r6,r6]
   by_cases hT:jx o.op=true
   ·refine hloc.here _ hn2 hag (agreeH hT) C m a w _ Q R fun v m' w' R' hv=>?_
    refine next m' _ w' ⟨_,R'.put (fun t ht=>by simp only; rw [hsn]; exact fd t ht) hv,fun t=>?_,?_,?_⟩ (by rw [put_defers]; exact hd)
    ·rw [eN]; rfl
    ·rw [St.gi]
     by_cases hw:kG o.op=true
     ·rw [if_pos hw]
     rw [if_neg hw,agreeH hT]; exact hloc.calm (by simpa using hw)
    rw [St.jR]; exact hsn
   obtain ⟨e1,e2⟩:=hloc.free (by simpa using hT)
   refine e2 _ hn2 hag C m a w _ Q R fun v m' w' R' hv=>?_
   have hw:kG o.op=false:=by
    rw [Bool.eq_false_iff]
    exact fun hw=>hT (xi hw)
   refine next m' _ w' ⟨_,R'.put (fun t ht=>by simp only; rw [hsn]; exact fd t ht) hv,fun t=>?_,?_,?_⟩ (by rw [put_defers]; exact hd)
   ·rw [eN]
   ·rw [St.gi,hw]; simp
   rw [St.jR]; exact hsn
 refine key ops.size (Array.replicate ops.size false) m a w (by simp) ?_ ?_ ?_ hd
 ·have:∀ i∈List.range ops.size,(!(Array.replicate ops.size false).getD i true)=true:=by
   intro i hi
   have hi:i < ops.size:=by simpa using hi
   simp [Array.getD_eq_getD_getElem?,hi]
  rw [List.countP_eq_length.2 this]
  simp
 ·intro j o hj
  exfalso
  simp only [Array.getD_eq_getD_getElem?,Array.getElem?_replicate] at hj
  split at hj<;>simp at hj
 refine R.congr (fun t=>?_) ?_ (r6 _ _ _ _)
 ·refine mG out s _ t 0 ops.size (Nat.zero_le _) fun i _ hi h=>?_
  simp only [Array.getD_eq_getD_getElem?,Array.getElem?_replicate] at h
  split at h<;>simp at h
 refine qH out s _ 0 ops.size (Nat.zero_le _) fun i _ hi h=>?_
 simp only [Array.getD_eq_getD_getElem?,Array.getElem?_replicate] at h
 split at h<;>simp at h
end
open Go.RowKit
section
variable {P:Program} {T:TypeId→Option TI}
theorem E8 {op:BinOp} {t:TypeId} {H:aw} {x y:AV} {r:OV} (h:dW T op t H x y=some r):r.H=H∧∀ H2,dW T op t H2 x y=some { r with H:=H2 }:=by
 unfold dW at h ⊢
 split at h<;>(try split at h)<;>simp only [Option.some.injEq,reduceCtorEq] at h<;>subst h<;>exact ⟨rfl,fun _=>rfl⟩
theorem Az {ti:TI} {H:aw} {x y:AV} {r:OV} (h:jZ ti H x y=some r):r.H=H∧∀ H2,jZ ti H2 x y=some { r with H:=H2 }:=by
 unfold jZ at h ⊢
 split at h
 ·split at h
  ·rename_i hk
   split at h<;>simp only [Option.some.injEq,reduceCtorEq] at h
   subst h
   refine ⟨rfl,fun H2=>?_⟩
   simp [hk]
  cases h
 cases h
theorem F7 {H:aw} {x:AV} {r:OV} (h:tw H x=some r):r.H=H∧∀ H2,tw H2 x=some { r with H:=H2 }:=by
 unfold tw at h ⊢
 split at h<;>simp only [Option.some.injEq,reduceCtorEq] at h<;>subst h<;>exact ⟨rfl,fun _=>rfl⟩
theorem HC {op:UnOp} {H:aw} {x:AV} {r:OV} (h:yD op H x=some r):r.H=H∧∀ H2,yD op H2 x=some { r with H:=H2 }:=by
 unfold yD at h ⊢
 split at h<;>(try split at h)<;>simp only [Option.some.injEq,reduceCtorEq] at h<;>subst h<;>exact ⟨rfl,fun _=>rfl⟩
theorem C1 {H:aw} {a b x:AV} {r:OV} (h:lB a b H x=some r):r.H=H∧∀ H2,lB a b H2 x=some { r with H:=H2 }:=by
 unfold lB at h ⊢
 split at h<;>simp only [Option.some.injEq,reduceCtorEq] at h<;>subst h<;>exact ⟨rfl,fun _=>rfl⟩
theorem CF {src dst:TypeId} {H:aw} {x:AV} {r:OV} (h:mV T src dst H x=some r):r.H=H∧∀ H2,mV T src dst H2 x=some { r with H:=H2 }:=by
 unfold mV at h ⊢
 split at h<;>(try split at h)<;>simp only [Option.some.injEq,reduceCtorEq] at h<;>subst h<;>exact ⟨rfl,fun _=>by simp_all⟩
theorem rT {ti:TI} {f:Nat} {H:aw} {x:AV} {r:OV} (h:dZ ti f H x=some r):r.H=H∧∀ H2,dZ ti f H2 x=some { r with H:=H2 }:=by
 unfold dZ at h ⊢
 split at h<;>(try split at h)<;>(try split at h)<;>simp only [Option.some.injEq,reduceCtorEq] at h<;>subst h<;>exact ⟨rfl,fun _=>by simp_all⟩
theorem Bf {ti:TI} {f:Nat} {H:aw} {x:AV} {r:OV} (h:j7 T ti f H x=some r):r.H=H∧∀ H2,j7 T ti f H2 x=some { r with H:=H2 }:=by
 unfold j7 at h ⊢
 split at h
 ·split at h
  ·split at h
   ·rename_i tf htf
    cases hr:c5 tf.kind<;>rw [hr] at h<;>simp only [cond_true,cond_false,Option.some.injEq] at h<;>subst h<;>exact ⟨rfl,fun _=>by simp_all⟩
   cases h
  cases h
 cases h
theorem qV {ti:TI} {H:aw} {x y:AV} {r:OV} (h:c9 T ti H x y=some r):r.H=H∧∀ H2,c9 T ti H2 x y=some { r with H:=H2 }:=by
 unfold c9 at h ⊢
 split at h<;>(try split at h)<;>(try split at h)<;>(try split at h)<;>simp only [Option.some.injEq,reduceCtorEq] at h<;>subst h<;>exact ⟨rfl,fun _=>by simp_all⟩
theorem yQ {ti:TI} {H:aw} {x:AV} {lo hi:Option AV} {r:OV} (h:kE T ti H x lo hi=some r):r.H=H∧∀ H2,kE T ti H2 x lo hi=some { r with H:=H2 }:=by
 unfold kE at h ⊢
 split at h<;>(try split at h)<;>(try split at h)<;>(try split at h)<;>simp only [Option.some.injEq,reduceCtorEq] at h<;>subst h<;>exact ⟨rfl,fun _=>by simp_all⟩
theorem u4 {i:Nat} {H:aw} {x:AV} {r:OV} (h:eh i H x=some r):r.H=H∧∀ H2,eh i H2 x=some { r with H:=H2 }:=by
 unfold eh at h ⊢
 split at h<;>simp only [Option.some.injEq,reduceCtorEq] at h<;>subst h<;>exact ⟨rfl,fun _=>rfl⟩
theorem EZ {ti:TI} {H:aw} {x:AV} {r:OV} (h:sE ti H x=some r):r.H=H∧∀ H2,sE ti H2 x=some { r with H:=H2 }:=by
 unfold sE at h ⊢
 split at h<;>(try split at h)<;>simp only [Option.some.injEq,reduceCtorEq] at h<;>subst h<;>exact ⟨rfl,fun _=>by simp_all⟩
theorem qI {f:Int→Int→Int} {H:aw} {l:List AV} {r:OV} (h:fK f H l=some r):r.H=H∧∀ H2,fK f H2 l=some { r with H:=H2 }:=by
 unfold fK at h ⊢
 split at h<;>simp only [Option.some.injEq,reduceCtorEq] at h<;>subst h<;>exact ⟨rfl,fun _=>rfl⟩
theorem zq {ti:TI} {H:aw} {l:List (Nat × AV)} {r:OV} (h:kj T ti H l=some r):r.H=H∧∀ H2,kj T ti H2 l=some { r with H:=H2 }:=by
 unfold kj at h ⊢
 split at h<;>(try split at h)<;>(try split at h)<;>simp only [Option.some.injEq,reduceCtorEq] at h<;>subst h<;>exact ⟨rfl,fun _=>by simp_all⟩
theorem pT {ti:TI} {n:Nat} {H:aw} {l:List (Nat × AV)} {r:OV} (h:df T ti H n l=some r):r.H=H∧∀ H2,df T ti H2 n l=some { r with H:=H2 }:=by
 unfold df at h ⊢
 split at h<;>(try split at h)<;>(try split at h)<;>simp only [Option.some.injEq,reduceCtorEq] at h<;>subst h<;>exact ⟨rfl,fun _=>by simp_all⟩
theorem qK {ti:TI} {ok:Bool} {H:aw} {x y:AV} {r:OV} (h:fJ T ti ok H x y=some r):r.H=H:=by
 unfold fJ at h
 split at h
 ·split at h
  ·split at h
   ·split at h
    ·simp only [Option.some.injEq] at h
     subst h; rfl
    cases h
   cases h
  cases h
 cases h
theorem se {ti:TI} {H:aw} {x:AV} {r:OV} (h:iM ti H x=some r):r.H=H:=by
 unfold iM at h
 split at h
 ·split at h
  ·cases hr:c5 ti.kind<;>rw [hr] at h<;>simp only [cond_true,cond_false,Option.some.injEq] at h<;>subst h<;>rfl
  ·cases hr:c5 ti.kind<;>rw [hr] at h<;>simp only [cond_true,cond_false,Option.some.injEq] at h<;>subst h<;>rfl
  ·cases h
  ·cases h
  ·cases h
  cases h
 ·cases hr:c5 ti.kind<;>rw [hr] at h<;>simp only [cond_true,cond_false,Option.some.injEq] at h<;>subst h<;>rfl
 cases h
theorem mQ {f:FuncId} {H:aw} {l:List AV} {r:OV} (h:eH f H l=some r):r.H=H:=by
 unfold eH at h
 split at h<;>simp only [Option.some.injEq,reduceCtorEq] at h
 subst h; rfl
theorem lO {s s2:St} {op:Op} (h:∀ x∈op.operands,s2.ev x=s.ev x) (hH:s2.H=s.H):bU T s2 op=bU T s op:=by
 have parts:∀ ps:Array (Nat × Operand),(∀ x∈(ps.toList.map (·.2)).toArray,s2.ev x=s.ev x)→(ps.toList.map fun p=>(p.1,s2.ev p.2))=ps.toList.map fun p=>(p.1,s.ev p.2):=by
  intro ps hp
  apply List.map_congr_left
  intro q hq
  rw [hp q.2 (by simpa using ⟨q.1,by simpa using hq⟩)]
 have opts:∀ o:Option Operand,(∀ x∈o.toArray,s2.ev x=s.ev x)→o.map s2.ev=o.map s.ev:=by
  intro o ho
  cases o with
  | none=>rfl
  | some x=>simp [ho x (by simp)]
 have lists:∀ l:Array Operand,(∀ x∈l,s2.ev x=s.ev x)→l.toList.map s2.ev=l.toList.map s.ev:=by
  intro l hl
  apply List.map_congr_left
  intro x hx
  exact hl x (by simpa using hx)
 cases op<;>simp only [Op.operands] at h
 case call c =>
  obtain ⟨callee,args,ts⟩:=c
  cases callee with
  | builtin b =>
   simp only [bU,hH]
   rw [lists args fun x hx=>h x (by simpa [Call.operands] using hx)]
  | _=>simp [bU]
 case slice t x lo hi mx =>
  cases mx with
  | none =>
   simp only [bU,hH]
   rw [h x (by simp),opts lo fun y hy=>h y (by simp at hy ⊢; simp [hy]),opts hi fun y hy=>h y (by simp at hy ⊢; simp [hy])]
  | some _=>simp [bU]
 case makeFunc fn first caps =>
  cases fn with
  | func f =>
   simp only [bU,hH]
   rw [lists caps fun x hx=>h x (by simp [hx])]
  | _=>simp [bU]
 case makeMap t r =>
  cases r with
  | none=>simp only [bU,hH]
  | some _=>simp [bU]
 case build t ps=>simp only [bU,hH]; rw [parts ps fun x hx=>h x hx]
 case buildSlice t n ps=>simp only [bU,hH]; rw [parts ps fun x hx=>h x hx]
 all_goals simp only [bU,hH]
 all_goals first|rfl|(simp only [List.mem_toArray,List.mem_cons,List.not_mem_nil,or_false,forall_eq_or_imp,forall_eq] at h; simp only [h])
theorem jo {s:St} {op:Op} {r:OV} (hT:jx op=false) (h:bU T s op=some r):r.H=s.H∧∀ H2,bU T { s with H:=H2 } op=some { r with H:=H2 }:=by
 have hev:∀ (H2:aw) (x:Operand),({ s with H:=H2 } : St).ev x=s.ev x:=fun H2 x=>by cases x<;>rfl
 have hev' : ∀ (H2:aw),({ s with H:=H2 } : St).ev=s.ev:=fun H2=>funext (hev H2)
 cases op<;>simp only [jx,Bool.true_eq_false] at hT
 case call c =>
  obtain ⟨callee,args,ts⟩:=c
  cases callee with
  | builtin b =>
   simp only [bU,hev'] at h ⊢
   cases b<;>simp only [Bool.true_eq_false] at hT
   ·unfold cE at h ⊢
    split at h<;>simp only [reduceCtorEq] at *
    rename_i x t
    split at h
    ·exact EZ h
    cases h
   ·simp only [cE] at h ⊢
    exact qI h
   simp only [cE] at h ⊢
   exact qI h
  | _=>simp [bU] at h
 all_goals simp only [bU,hev'] at h ⊢
 case move=>cases h; exact ⟨rfl,fun _=>rfl⟩
 case assign=>cases h; exact ⟨rfl,fun _=>rfl⟩
 case pick=>exact C1 h
 case binOp=>exact E8 h
 case unOp=>exact HC h
 case nilCheck=>exact F7 h
 case index =>
  split at h
  ·exact Az h
  cases h
 case convert=>exact CF h
 case extract=>exact u4 h
 case fieldAddr =>
  split at h
  ·exact rT h
  cases h
 case field =>
  split at h
  ·rename_i x _ _ _ _
   cases hl:(s.ev x).isAgg<;>rw [hl] at h
   ·cases h
   simp only [cond_true] at h ⊢; exact Bf h
  cases h
 case indexAddr =>
  split at h
  ·exact qV h
  cases h
 case slice t x lo hi mx =>
  cases mx with
  | none =>
   simp only at h ⊢
   split at h
   ·exact yQ h
   cases h
  | some _=>simp at h
 case build =>
  split at h
  ·exact zq h
  cases h
 case buildSlice =>
  split at h
  ·exact pT h
  cases h
theorem yP {s:St} {op:Op} {r:OV} (hW:kG op=false) (h:bU T s op=some r):r.H=s.H:=by
 by_cases hT:jx op=false
 ·exact (jo hT h).1
 rw [Bool.not_eq_false] at hT
 cases op<;>simp only [jx,kG,Bool.true_eq_false,Bool.false_eq_true] at hT hW
 case load =>
  simp only [bU] at h
  split at h
  ·exact se h
  cases h
 case makeFunc fn first caps =>
  cases fn with
  | func f =>
   simp only [bU] at h
   cases hf:first.isEmpty<;>rw [hf] at h
   ·cases h
   exact mQ h
  | _=>simp [bU] at h
 case call c =>
  obtain ⟨callee,args,ts⟩:=c
  cases callee with
  | builtin b =>
   simp only [bU] at h
   unfold cE at h
   split at h<;>simp_all
  | _=>simp [bU] at h
 case lookup =>
  simp only [bU] at h
  split at h
  ·exact qK h
  cases h
 all_goals simp [bU] at h
theorem Db (hT:∀ t ti,T t=some ti→bp P t=some ti) {o:Oper} {s:St} {r:OV} (h:bU T s o.op=some r) (hvc:r.vc):BK P o s r.av r.H:=by
 refine ⟨fun s2 hn ha hH=>?_,fun hf=>⟨(jo hf h).1,fun s2 hn ha=>?_⟩,fun hw=>yP hw h⟩
 ·have:=lO (T:=T) ha hH
  rw [h] at this
  exact (dO hT this hvc).wp
 have h1:=(jo hf h).2 s2.H
 have:=lO (T:=T) (s:={ s with H:=s2.H }) (s2:=s2) (op:=o.op) (fun x hx=>by rw [ha x hx]; cases x<;>rfl) rfl
 rw [h1] at this
 exact (dO hT this hvc).wp
inductive X where
 | run (vc:Prop) (s:St)
 | stop (vc:Prop) (rest:List Oper) (s:St)
def au (s:St):Option Tmp→Prop
 | none=>True
 | some t=>t < s.n
def after (o:Oper) (s:St) (r:OV):St:=({ s with H:=r.H } : St).put o.dst r.av
def A9 (T:TypeId→Option TI) (all:Array Oper) (o:Oper) (rest:List Oper) (vc:Prop) (s:St):X:=
 match bt all s o with
 | some true =>
  match bU T s o.op with
  | some r=>.run (vc∧au s o.dst∧r.vc) (after o s r)
  | none=>.stop vc (o :: rest) s
 | some false=>.run (vc∧au s o.dst) (s.put o.dst (.p (.tup [])))
 | none=>.stop vc (o :: rest) s
def uf (T:TypeId→Option TI) (all:Array Oper):List Oper→X→X
 | [],x=>x
 | o :: r,.run vc s=>uf T all r (A9 T all o r vc s)
 | _ :: _,.stop vc rest s=>.stop vc rest s
def gY (P:Program) (draw:Bool) (all:Array Oper) (rest:List Oper) (K:St→Prop) (s:St):Prop:=∃ s',nb P draw all rest s s'∧K s'
def fin (P:Program) (draw:Bool) (all:Array Oper) (K:St→Prop):X→Prop
 | .run vc s=>vc∧K s
 | .stop vc rest s=>vc∧gY P draw all rest K s
theorem cM {s:St} {d:Option Tmp} (h:au s d):∀ t,d=some t→t < s.n:=by
 rintro t rfl; exact h
theorem qF (all:Array Oper) (l:List Oper) (vc:Prop) (rest:List Oper) (s:St):uf T all l (.stop vc rest s) = .stop vc rest s:=by cases l<;>rfl
theorem ky (hT:∀ t ti,T t=some ti→bp P t=some ti) {draw:Bool} {all:Array Oper} {K:St→Prop} : ∀ (ops:List Oper) (vc:Prop) (s:St),fin P draw all K (uf T all ops (.run vc s))→vc∧gY P draw all ops K s
 | [],vc,s,h=>⟨h.1,s,.nil s,h.2⟩
 | o :: r,vc,s,h=>by
  simp only [uf,A9] at h
  split at h
  ·rename_i hg
   split at h
   ·rename_i ov hov
    obtain ⟨⟨h1,h2,h3⟩,s',hr,hK⟩:=ky hT r _ _ h
    exact ⟨h1,s',.cons (.op s ov.av ov.H hg (cM h2) (dO hT hov h3).wp fun _=>Db hT hov h3) hr,hK⟩
   rw [qF] at h; exact h
  ·rename_i hg
   obtain ⟨⟨h1,h2⟩,s',hr,hK⟩:=ky hT r _ _ h
   exact ⟨h1,s',.cons (.skip s hg (cM h2)) hr,hK⟩
  rw [qF] at h; exact h
theorem aa (hT:∀ t ti,T t=some ti→bp P t=some ti) {draw:Bool} {all:Array Oper} {rest:List Oper} {K:St→Prop} {s:St} (h:fin P draw all K (uf T all rest (.run True s))):gY P draw all rest K s:=
 (ky hT rest True s h).2
end
open Go.RowKit
def Holds (P:Program) (c:Code) (Q:Exit→St→Prop) (s:St):Prop:=
 ∀ (r:Option Nat) (ds:List Deferred) C m (a:Act) w,Rel C m s a.tmps w→a.defers=ds→sh r P c (fun e a' w'=>∃ s' m',Q e s'∧Rel C m' s' a'.tmps w'∧a'.defers=ds) a w
def Hk (K:St→Prop) (Q:Exit→St→Prop):Exit→St→Prop
 | .normal,s=>K s
 | e,s=>Q e s
def Gc (id:Nat) (Q:Exit→St→Prop):Exit→St→Prop
 | .exit j,s=>if j=id then Q .normal s else Q (.exit j) s
 | e,s=>Q e s
section
variable {P:Program} {Q:Exit→St→Prop} {s:St}
theorem GD {K:St→Prop} (h:K s):Hk K Q .normal s:=h
theorem Ho {K:St→Prop} (h:Q .ret s):Hk K Q .ret s:=h
theorem HE {K:St→Prop} {id:Nat} (h:Q (.exit id) s):Hk K Q (.exit id) s:=h
theorem GF {id:Nat} (h:Q .normal s):Gc id Q .normal s:=h
theorem Hf {id:Nat} (h:Q .ret s):Gc id Q .ret s:=h
theorem G0 {id:Nat} (h:Q .normal s):Gc id Q (.exit id) s:=by simp only [Gc,if_true]; exact h
theorem Fg {x y:Code} (h:Holds P x (Hk (Holds P y Q) Q) s):Holds P (.seq x y) Q s:=by
 intro r ds C m a w R hd
 refine CZ (gJ (h r ds C m a w R hd) fun e a' w' ⟨s',m',h1,h2,h3⟩=>?_)
 cases e with
 | normal=>exact h1 r ds C m' a' w' h2 h3
 | _=>exact ⟨s',m',h1,h2,h3⟩
theorem Bc {id:Nat} {c:Code} (h:Holds P c (Gc id Q) s):Holds P (.block id c) Q s:=by
 intro r ds C m a w R hd
 refine xC (gJ (h r ds C m a w R hd) fun e a' w' ⟨s',m',h1,h2,h3⟩=>?_)
 cases e with
 | exit j =>
  simp only [Gc,Exit.inBlock] at h1 ⊢
  by_cases e:j=id
  ·rw [if_pos e] at h1 ⊢; exact ⟨s',m',h1,h2,h3⟩
  rw [if_neg e] at h1 ⊢; exact ⟨s',m',h1,h2,h3⟩
 | _=>exact ⟨s',m',h1,h2,h3⟩
theorem CS (h:Q .normal s):Holds P .skip Q s:=fun _ _ _ m _ _ R hd=>yU ⟨s,m,h,R,hd⟩
theorem CO {id:Nat} (h:Q (.exit id) s):Holds P (.exit id) Q s:=fun _ _ _ m _ _ R hd=>zL ⟨s,m,h,R,hd⟩
theorem Et (h:Q .ret s):Holds P .ret Q s:=fun _ _ _ m _ _ R hd=>Ca ⟨s,m,h,R,hd⟩
def DH (s:St) (c:Operand):Option Bool:=
 match s.ev c with
 | .p (.bool b)=>some b
 | _=>none
theorem ao {c:Operand} {x y:Code} {b:Bool} (hc:DH s c=some b) (hx:b=true→Holds P x Q s) (hy:b=false→Holds P y Q s):Holds P (.cond c x y) Q s:=by
 intro r ds C m a w R hd
 have he:a.eval c = .bool b:=by
  have:=R.ev c
  unfold DH at hc
  split at hc<;>simp only [Option.some.injEq,reduceCtorEq] at hc
  rename_i b' hb
  rw [hb] at this
  rw [← hc]
  exact this.aP.eY
 exact pF he (fun h=>hx h r ds C m a w R hd) (fun h=>hy h r ds C m a w R hd)
theorem ab {id:Nat} {l:List Oper} (h:∀ K:St→Prop,(∀ s',Q .normal s'→K s')→gY P false l.toArray l K s):Holds P (.region id l.toArray false) Q s:=by
 intro r ds C m a w R hd
 obtain ⟨s',hr,hK⟩:=h (Q .normal) fun _ h=>h
 exact pk (hr.sound R hd fun m' a' w' R' hd'=>⟨s',m',hK,R',hd'⟩)
def H9 (l:List Oper):Bool:=l.all fun o=>o.guard.isNone || !kG o.op
theorem ba {id:Nat} {l:List Oper} (hm:P.follows .mixedOrders=true) (hok:(rE l.toArray && H9 l)=true) (h:∀ K:St→Prop,(∀ s',Q .normal s'→K s')→gY P true l.toArray l K s):Holds P (.region id l.toArray true) Q s:=by
 intro r ds C m a w R hd
 rw [Bool.and_eq_true] at hok
 obtain ⟨s',hr,hK⟩:=h (Q .normal) fun _ h=>h
 refine jr hm ?_
 refine vq hok.1 (fun o ho hg=>?_) hr (R.later ⟨rfl,rfl,rfl,Nat.le_refl _,fun _ _=>rfl,Nat.le_succ _⟩) hd fun m' a' w' R' hd'=>⟨s',m',hK,R',hd'⟩
 have:=(List.all_eq_true.1 hok.2) o ho
 cases hgu:o.guard with
 | none=>exact absurd hgu hg
 | some g=>rw [hgu] at this; simpa using this
def bq (n:Nat):AV→Bool
 | .sl k _ _=>k < n
 | .ptr k _=>k < n
 | .mptr k=>k < n
 | .sls k _ _ _=>k < n
 | .agg _=>false
 | .tup _=>false
 | .cl _ _=>false
 | .yv _ _ _=>false
 | _=>true
def bb (n:Nat):AV→Bool
 | .agg l=>l.all (bq n)
 | .tup l=>l.all (bq n)
 | .cl _ l=>l.all (bq n)
 | .yv k l _=>decide (k < n) && l.all (bq n)
 | x=>bq n x
def bu (π:List Nat):AV→AV
 | .sl k lo len=>.sl (π.getD k 0) lo len
 | .ptr k i=>.ptr (π.getD k 0) i
 | .mptr k=>.mptr (π.getD k 0)
 | .sls k lo len sz=>.sls (π.getD k 0) lo len sz
 | x=>x
def bg (π:List Nat):AV→AV
 | .agg l=>.agg (l.map (bu π))
 | .tup l=>.tup (l.map (bu π))
 | .cl f l=>.cl f (l.map (bu π))
 | .yv k l vs=>.yv (π.getD k 0) (l.map (bu π)) vs
 | x=>bu π x
def jS (π:List Nat):List (Nat × AV)→St→Prop
 | [],_=>True
 | (t,x) :: r,s=>s.get t=bg π x∧bb π.length x=true∧jS π r s
def jN (π:List Nat) (H:aw) (k:Nat):aM→Prop
 | .dead=>True
 | .own c=>(match aq H k with | .own d=>c.map (bg π)=d.take c.length∧c.all (bb π.length)=true | _=>False)
 | .fro c=>aq H k = .fro c
 | .mp kk d v=>aq H k = .mp kk d v
 | .lp r=>aq H k = .lp r
 | .dt i j=>aq H k = .dt i (π.getD j 0)∧j < π.length
def kf (π:List Nat) (H:aw):List Nat→aw→Prop
 | [],[]=>True
 | k :: ks,b :: r=>jN π H k b∧kf π H ks r
 | _,_=>False
def Le (π:List Nat) (s1 s:St):Prop:=s1.n=s.n∧π.Nodup∧kf π s.H π s1.H∧jS π s1.sl s
theorem jS.get {π:List Nat} : ∀ {l:List (Nat × AV)} {s:St},jS π l s→∀ t,lk l t = .dead∨(s.get t=bg π (lk l t)∧bb π.length (lk l t)=true)
 | [],s,_,t=>.inl rfl
 | (i,x) :: r,s,h,t=>by
  simp only [lk]
  cases e:(i == t)
  ·simp only [cond_false]; exact jS.get h.2.2 t
  simp only [cond_true]
  have:i=t:=by simpa using e
  subst this
  exact .inr ⟨h.1,h.2.1⟩
theorem kf.get {π:List Nat} {H:aw} : ∀ {ks:List Nat} {H1:aw},kf π H ks H1→ks.length=H1.length∧∀ (k:Nat) (b:aM),H1[k]? = some b→∃ k',ks[k]? = some k'∧jN π H k' b
 | [],[],_=>⟨rfl,fun k b h=>by simp at h⟩
 | k0 :: ks,b0 :: r,h=>by
  obtain ⟨h1,h2⟩:=kf.get h.2
  refine ⟨by simp [h1],fun k b hk=>?_⟩
  cases k with
  | zero=>simp at hk; subst hk; exact ⟨k0,rfl,h.1⟩
  | succ k=>simpa using h2 k b (by simpa using hk)
 | [],_ :: _,h=>h.elim
 | _ :: _,[],h=>h.elim
def cJ (m:Map) (π:List Nat):Map:=fun k=>(π[k]?).bind m
theorem aG.gE {rd rd' : PV→Value→Prop} {m:Map} {H H1:aw} {π:List Nat} (h1:∀ p v,rd p v→rd' p v) (hl1:H1.length=π.length) {x:AV} {v:Value} (h:aG rd m H (bu π x) v) (hs:bq π.length x=true):aG rd' (cJ m π) H1 x v:=by
 cases x with
 | dead=>exact .dead v
 | p pv=>exact .p pv v (h1 _ _ h.aP)
 | sl k lo len =>
  have hk:k < π.length:=by simpa [bq] using hs
  simp only [bu,List.getD_eq_getElem?_getD,List.getElem?_eq_getElem hk,Option.getD_some] at h
  cases h with
  | sl _ _ _ _ _ h =>
   refine .sl k lo len v (by omega) ?_
   unfold Ch cJ at *
   rw [List.getElem?_eq_getElem hk]
   exact h
 | ptr k i =>
  have hk:k < π.length:=by simpa [bq] using hs
  simp only [bu,List.getD_eq_getElem?_getD,List.getElem?_eq_getElem hk,Option.getD_some] at h
  cases h with
  | ptr _ _ _ _ h =>
   refine .ptr k i v (by omega) ?_
   unfold w9 cJ at *
   rw [List.getElem?_eq_getElem hk]
   exact h
 | agg l=>simp [bq] at hs
 | tup l=>simp [bq] at hs
 | cl f l=>simp [bq] at hs
 | lH r=>cases h; exact .lH r
 | sls k lo len sz =>
  have hk:k < π.length:=by simpa [bq] using hs
  simp only [bu,List.getD_eq_getElem?_getD,List.getElem?_eq_getElem hk,Option.getD_some] at h
  cases h with
  | sls _ _ _ _ _ _ h =>
   refine .sls k lo len sz v (by omega) ?_
   unfold wx cJ at *
   rw [List.getElem?_eq_getElem hk]
   exact h
 | mptr k =>
  have hk:k < π.length:=by simpa [bq] using hs
  simp only [bu,List.getD_eq_getElem?_getD,List.getElem?_eq_getElem hk,Option.getD_some] at h
  cases h with
  | mptr _ _ _ h =>
   refine .mptr k v (by omega) ?_
   unfold rH cJ at *
   rw [List.getElem?_eq_getElem hk]
   exact h
 | yv k l vs=>simp [bq] at hs
theorem aG.sT {rd rd' : PV→Value→Prop} {m:Map} {H H1:aw} {π:List Nat} (h1:∀ p v,rd p v→rd' p v) (hl1:H1.length=π.length) {x:AV} {v:Value} (h:aG rd m H (bg π x) v) (hs:bb π.length x=true):aG rd' (cJ m π) H1 x v:=by
 cases x with
 | agg l =>
  simp only [bg,bb] at h hs
  cases h with
  | agg _ vs hl hr =>
   refine .agg l vs (by simpa using hl) fun c hc=>?_
   have:=hr c (by simpa using hc)
   rw [List.getElem_map] at this
   exact this.gE h1 hl1 ((List.all_eq_true.1 hs) _ (List.getElem_mem hc))
 | tup l =>
  simp only [bg,bb] at h hs
  cases h with
  | tup _ vs hl hr =>
   refine .tup l vs (by simpa using hl) fun c hc=>?_
   have:=hr c (by simpa using hc)
   rw [List.getElem_map] at this
   exact this.gE h1 hl1 ((List.all_eq_true.1 hs) _ (List.getElem_mem hc))
 | cl f l =>
  simp only [bg,bb] at h hs
  cases h with
  | cl _ _ vs hl hr =>
   refine .cl f l vs (by simpa using hl) fun c hc=>?_
   have:=hr c (by simpa using hc)
   rw [List.getElem_map] at this
   exact this.gE h1 hl1 ((List.all_eq_true.1 hs) _ (List.getElem_mem hc))
 | yv k l vs =>
  simp only [bg,bb,Bool.and_eq_true,decide_eq_true_eq] at h hs
  obtain ⟨hk,hs⟩:=hs
  simp only [List.getD_eq_getElem?_getD,List.getElem?_eq_getElem hk,Option.getD_some] at h
  cases h with
  | yv _ _ _ _ _ h hl hr =>
   refine .yv k l vs v (by omega) ?_ (by simpa using hl) fun c hc=>?_
   ·unfold C9 cJ at *
    rw [List.getElem?_eq_getElem hk]
    exact h
   have:=hr c (by simpa using hc)
   rw [List.getElem_map] at this
   exact this.gE h1 hl1 ((List.all_eq_true.1 hs) _ (List.getElem_mem hc))
 | dead=>exact .dead v
 | p pv=>exact aG.gE h1 hl1 h hs
 | sl k lo len=>exact aG.gE h1 hl1 h hs
 | ptr k i=>exact aG.gE h1 hl1 h hs
 | mptr k=>exact aG.gE h1 hl1 h hs
 | lH r=>exact aG.gE h1 hl1 h hs
 | sls k lo len sz=>exact aG.gE h1 hl1 h hs
def aM.wr:aM→Bool
 | .own _=>true
 | .mp _ _ _=>true
 | .lp _=>true
 | _=>false
theorem kf.own {π:List Nat} {H H1:aw} (g2:∀ (k:Nat) (b:aM),H1[k]? = some b→∃ k',π[k]? = some k'∧jN π H k' b):∀ (k:Nat) (c:List AV),H1[k]? = some (aM.own c)→∃ (k' : Nat) (d:List AV),π[k]? = some k'∧H[k']? = some (aM.own d)∧c.all (bb π.length)=true∧c.map (bg π)=d.take c.length:=by
 intro k c hk
 obtain ⟨k',a,b⟩:=g2 k _ hk
 unfold jN at b
 simp only at b
 split at b
 ·rename_i d hd
  exact ⟨k',d,a,bh hd,b.2,b.1⟩
 exact b.elim
theorem OK.weaken {C:Ctx} {m:Map} {H H1:aw} {π:List Nat} {w:World} (h3:kf π H π H1):∀ b,OK C m H w b→OK C (cJ m π) H1 w b:=by
 refine fun b hb=>⟨hb.1,hb.2.1,fun k c l hk hl=>?_⟩
 obtain ⟨k',d,a1,a2,a3,_⟩:=kf.own (h3.get).2 k c hk
 simp only [cJ,a1,Option.bind_some] at hl
 exact hb.2.2 k' _ l a2 hl
theorem Rel.wu {C C' : Ctx} {m:Map} {s1:St} {π:List Nat} {tmps tmps' : Array Value} {w:World} (R:Rel C m s tmps w) (e1:tmps'.size=s1.n) (hnd:π.Nodup) (h3:kf π s.H π s1.H) (ho:∀ b,OK C m s.H w b→OK C' (cJ m π) s1.H w b)
  (hbel:bV C'.B C'.w0 w) (hbase:∀ b,w.heap.size≤b→C'.B b) (hB:∀ (k:Nat) (b:aM) (l:Loc),s1.H[k]? = some b→b.wr=true→cJ m π k=some l→C.B l.g→C'.B l.g)
  (hanc:∀ (k i j:Nat),s1.H[k]? = some (aM.dt i j)→j < s1.H.length∧cJ m π j=C'.dt i) (hslot:∀ t,aG (Reads (OK C' (cJ m π) s1.H w) w) (cJ m π) s1.H (s1.get t) (tmps'.getD t undef)):Rel C' (cJ m π) s1 tmps' w:=by
 obtain ⟨g1,g2⟩:=h3.get
 have own:=kf.own g2
 have hr:∀ p v,Reads (OK C m s.H w) w p v→Reads (OK C' (cJ m π) s1.H w) w p v:=fun p v h=>h.mono ho
 have mps:∀ (k:Nat) (kk:IntKind) (d:Int→Bool) (v:Int→PV),s1.H[k]? = some (aM.mp kk d v)→∃ k',π[k]? = some k'∧s.H[k']? = some (aM.mp kk d v):=by
  intro k kk d v hk
  obtain ⟨k',a,b⟩:=g2 k _ hk
  exact ⟨k',a,bW b (by simp)⟩
 refine ⟨R.laid.ext hr,hbel,hbase,e1,?_,?_,?_,hslot,fun k kk d v hk=>?_,fun k k' kk d v kk' d' v' l l' h1 h2 h3 h4 h5=>?_,hanc,?_⟩
 rotate_left 5
 ·have lps:∀ (k:Nat) (r:Loop),s1.H[k]? = some (aM.lp r)→∃ k',π[k]? = some k'∧s.H[k']? = some (aM.lp r):=by
   intro k r hk
   obtain ⟨k',a,b⟩:=g2 k _ hk
   exact ⟨k',a,bW b (by simp)⟩
  refine R.mp.2.2.2.ext (fun k=>π.getD k 0) (fun k r h=>?_) (fun k k' r r' h1 h2 e=>?_) (fun _ _ _ _ _ _=>rfl) fun k r l h hl h2=>hB k _ l h rfl hl h2
  ·obtain ⟨k',a1,a2⟩:=lps k r h
   have e:π.getD k 0=k':=by simp [List.getD,a1]
   exact ⟨by simp only [e]; exact a2,by simp only [cJ,a1,Option.bind_some,e]⟩
  obtain ⟨j,a1,_⟩:=lps k r h1
  obtain ⟨j',b1,_⟩:=lps k' r' h2
  simp only [List.getD,a1,b1,Option.getD_some] at e
  obtain ⟨hk,hk2⟩:=List.getElem?_eq_some_iff.1 a1
  obtain ⟨hk',hk2'⟩:=List.getElem?_eq_some_iff.1 b1
  have hp:=List.pairwise_iff_getElem.1 hnd
  rcases Nat.lt_trichotomy k k' with h | h | h
  ·exact absurd (hk2.trans (e.trans hk2'.symm)) (hp k k' hk hk' h)
  ·exact h
  exact absurd (hk2'.trans (e.symm.trans hk2.symm)) (hp k' k hk' hk h)
 rotate_left 3
 ·obtain ⟨j,b1,b2⟩:=mps k kk d v hk
  have hm:cJ m π k=m j:=by simp only [cJ,b1,Option.bind_some]
  obtain ⟨l,ar,clk,vs,a1,a2,a3,a4,a5,a6,a7⟩:=R.mp.1 j kk d v b2
  exact ⟨l,ar,clk,vs,by rw [hm]; exact a1,hB k _ l hk rfl (by rw [hm]; exact a1) a2,a3,a4,a5,a6,fun z hz=>hr _ _ (a7 z hz)⟩
 ·obtain ⟨j,b1,b2⟩:=mps _ _ _ _ h1
  obtain ⟨j',c1,c2⟩:=mps _ _ _ _ h2
  simp only [cJ,b1,c1,Option.bind_some] at h3 h4
  have:=R.mp.2.1 _ _ _ _ _ _ _ _ _ _ b2 c2 h3 h4 h5
  subst this
  obtain ⟨hk,hk2⟩:=List.getElem?_eq_some_iff.1 b1
  obtain ⟨hk',hk2'⟩:=List.getElem?_eq_some_iff.1 c1
  have hp:=List.pairwise_iff_getElem.1 hnd
  rcases Nat.lt_trichotomy k k' with h | h | h
  ·exact absurd (hk2.trans hk2'.symm) (hp k k' hk hk' h)
  ·exact h
  exact absurd (hk2'.trans hk2.symm) (hp k' k hk' hk h)
 ·intro k k' c c' l l' a1 a2 a3 a4 a5
  obtain ⟨j,_,b1,b2,_⟩:=own k c a1
  obtain ⟨j',_,b1',b2',_⟩:=own k' c' a2
  simp only [cJ,b1,b1',Option.bind_some] at a3 a4
  have:=R.inj j j' _ _ l l' b2 b2' a3 a4 a5
  subst this
  obtain ⟨hk,hk2⟩:=List.getElem?_eq_some_iff.1 b1
  obtain ⟨hk',hk2'⟩:=List.getElem?_eq_some_iff.1 b1'
  have hp:=List.pairwise_iff_getElem.1 hnd
  rcases Nat.lt_trichotomy k k' with h | h | h
  ·exact absurd (hk2.trans hk2'.symm) (hp k k' hk hk' h)
  ·exact h
  exact absurd (hk2'.trans hk2.symm) (hp k' k hk' hk h)
 ·intro k c hk
  obtain ⟨k',d,a1,a2,eA,hcd⟩:=own k c hk
  have hm:cJ m π k=m k':=by simp only [cJ,a1,Option.bind_some]
  have hlen:c.length≤d.length:=by
   have:=congrArg List.length hcd
   simp only [List.length_map,List.length_take] at this
   omega
  rcases R.blk k' _ a2 with ⟨hc,hn⟩ | ⟨l,cur,e,b1,b2,b3,b4,b5,b6,b7⟩
  ·subst hc
   exact .inl ⟨List.eq_nil_of_length_eq_zero (by simpa using hlen),by rw [hm]; exact hn⟩
  refine .inr ⟨l,cur,e,by rw [hm]; exact b1,hB k _ l hk rfl (by rw [hm]; exact b1) b2,b3,b4,b5,by omega,fun j hj=>?_⟩
  have:=b7 j (by omega)
  have e:d[j]'(by omega)=bg π c[j]:=by
   have h3:(c.map (bg π))[j]? = (d.take c.length)[j]?:=by rw [hcd]
   rw [List.getElem?_map,List.getElem?_eq_getElem hj,List.getElem?_take,if_pos hj,List.getElem?_eq_getElem (by omega)] at h3
   simpa using h3.symm
  rw [e] at this
  exact this.sT hr g1.symm ((List.all_eq_true.1 eA) _ (List.getElem_mem hj))
 intro k c hk
 obtain ⟨k',a,b⟩:=g2 k _ hk
 have hm:cJ m π k=m k':=by simp only [cJ,a,Option.bind_some]
 rcases (R.fro k' c (fX b)).ext (m':=m) ho (fun _ _=>rfl) rfl with ⟨e1,e2⟩ | ⟨l,vs,e1,e2⟩
 ·exact .inl ⟨e1,by rw [hm]; exact e2⟩
 exact .inr ⟨l,vs,by rw [hm]; exact e1,e2⟩
theorem Rel.weaken {C:Ctx} {m:Map} {s1:St} {π:List Nat} {tmps:Array Value} {w:World} (R:Rel C m s tmps w) (h:Le π s1 s):Rel C (cJ m π) s1 tmps w:=by
 obtain ⟨e1,hnd,h3,h2⟩:=h
 have ho:=OK.weaken (C:=C) (m:=m) (w:=w) h3
 obtain ⟨g1,g2⟩:=h3.get
 refine R.wu (by rw [e1]; exact R.size) hnd h3 ho R.below R.base (fun _ _ _ _ _ _ h=>h) (fun k i j hk=>?_) fun t=>?_
 ·obtain ⟨k',a,b⟩:=g2 k _ hk
  unfold jN at b
  simp only at b
  obtain ⟨b1,b2⟩:=b
  obtain ⟨_,c2⟩:=R.mp.2.2.1 k' i _ (bW b1 (by simp))
  refine ⟨by omega,?_⟩
  rw [← c2]
  simp only [cJ,List.getElem?_eq_getElem b2,Option.bind_some,List.getD_eq_getElem?_getD,Option.getD_some]
 rcases h2.get t with e | ⟨e,eA⟩
 ·unfold St.get; rw [e]; exact .dead _
 have:=R.slot t
 rw [e] at this
 exact this.sT (fun p v h=>h.mono ho) g1.symm eA
theorem DJ {c:Code} {s1:St} (π:List Nat) (hle:Le π s1 s) (h:Holds P c Q s1):Holds P c Q s:=
 fun r ds C m a w R hd=>h r ds C _ a w (R.weaken hle) hd
theorem aB {c:Code} {ι:Type} (S:ι→St) (I:ι→Prop) (μ:ι→Nat) (i0:ι) (h0:I i0) (π:List Nat) (hs:Le π (S i0) s)
  (step:∀ i,I i→Holds P c (Hk (fun s'=>∃ j π,I j∧μ j < μ i∧Le π (S j) s') Q) (S i)):Holds P (.loop c) Q s:=by
 intro r ds C m a w R hd
 let good:Nat→Act→World→Prop:=fun n a w=>∃ i m,I i∧μ i=n∧Rel C m (S i) a.tmps w∧a.defers=ds
 have least:∀ (p:Nat→Prop),(∃ n,p n)→∃ n,p n∧∀ k,p k→n≤k:=by
  intro p ⟨n,hn⟩
  induction n using Nat.strongRecOn with
  | _ n ih =>
   by_cases h:∃ k,k < n∧p k
   ·obtain ⟨k,hk,hp⟩:=h; exact ih k hk hp
   exact ⟨n,hn,fun k hp=>Nat.le_of_not_lt fun hk=>h ⟨k,hk,hp⟩⟩
 have hex:∀ a w,∃ n,(∃ k,good k a w)→good n a w∧∀ k,good k a w→n≤k:=by
  intro a w
  by_cases h:∃ k,good k a w
  ·obtain ⟨n,h1,h2⟩:=least _ h; exact ⟨n,fun _=>⟨h1,h2⟩⟩
  exact ⟨0,fun h'=>absurd h' h⟩
 let ms:Act→World→Nat:=fun a w=>Classical.choose (hex a w)
 have hms:∀ a w,(∃ k,good k a w)→good (ms a w) a w∧∀ k,good k a w→ms a w≤k:=fun a w=>Classical.choose_spec (hex a w)
 refine AG (fun a w=>∃ k,good k a w) ms ⟨μ i0,i0,_,h0,rfl,R.weaken hs,hd⟩ fun a w hg=>?_
 obtain ⟨⟨i,m,hI,hμ,R,hd⟩,_⟩:=hms a w hg
 refine gJ (step i hI r ds C m a w R hd) fun e a' w' ⟨s',m',h1,h2,h3⟩=>?_
 cases e with
 | normal =>
  obtain ⟨j,π',hJ,hlt,hle⟩:=h1
  have hg' : good (μ j) a' w':=⟨j,_,hJ,rfl,h2.weaken hle,h3⟩
  exact ⟨⟨_,hg'⟩,by have:=(hms a' w' ⟨_,hg'⟩).2 _ hg'; rw [hμ] at hlt; omega⟩
 | _=>exact ⟨s',m',h1,h2,h3⟩
end
open Go.RowKit
def dB (H:aw):AV→Option (Prop × PV × Bool)
 | .p v=>some (True,v,true)
 | .sl k lo len =>
  match aq H k with
  | .own c =>
   match eJ ((c.drop lo).take len) with
   | some ps=>some (lo + len≤c.length∧ps.all PV.one=true,.list ps,false)
   | none=>none
  | .fro c=>some (lo + len≤c.length∧((c.drop lo).take len).all PV.one=true,.list ((c.drop lo).take len),true)
  | .dead=>none
  | .mp _ _ _=>none
  | .dt _ _=>none
  | .lp _=>none
 | .ptr k i =>
  match aq H k with
  | .fro c=>some (i≤c.length,.ptr (c.drop i),true)
  | .own c =>
   match eJ (c.drop i) with
   | some ps=>some (i≤c.length,.ptr ps,false)
   | none=>none
  | .dead=>none
  | .mp _ _ _=>none
  | .dt _ _=>none
  | .lp _=>none
 | _=>none
def cq (f:AV→Option (Prop × PV × Bool)):List AV→Option (Prop × List PV × Bool)
 | []=>some (True,[],true)
 | x :: r =>
  match f x,cq f r with
  | some (p,v,b),some (q,l,c)=>some (p∧q,v :: l,b && c)
  | _,_=>none
def dK (H:aw):AV→Option (Prop × PV × Bool)
 | .agg l=>match cq (dB H) l with | some (p,ps,b)=>some (p,.agg ps,b) | none=>none
 | .cl f l=>match cq (dB H) l with | some (p,ps,b)=>some (p,.fn f ps,b) | none=>none
 | x=>dB H x
def ui (H:aw):AV→Option (Prop × PV × Bool)
 | .tup l=>match cq (dK H) l with | some (p,ps,b)=>some (p,.tup ps,b) | none=>none
 | x=>dK H x
section
variable {P:Program} {T:TypeId→Option TI} {C:Ctx} {m:Map} {s:St} {tmps:Array Value} {w:World}
def HY (okA:Nat→Prop) (w w' : World) (b:Nat):Prop:=(okA b∨w.heap.size≤b)∧b < w'.heap.size
def fresh (okA:Nat→Prop) (w:World):Ctx:=⟨okA,fun b=>w.heap.size≤b,w,fun _=>none⟩
def H7 (C:Ctx) (w:World) (b:Nat):Prop:=(C.okA b∨C.B b)∧b < w.heap.size
def qJ (C:Ctx) (m:Map) (H:aw) (w:World) (pv:PV) (b:Bool) (v:Value):Prop:=Reads (H7 C w) w pv v∧(b=true→Reads (OK C m H w) w pv v)
theorem uL {H:aw} (b:Nat) (h:OK C m H w b):H7 C w b:=⟨h.1,h.2.1⟩
theorem qJ.of {H:aw} {pv:PV} {b:Bool} {v:Value} (h:Reads (OK C m H w) w pv v):qJ C m H w pv b v:=⟨h.mono (fun b hb=>uL b hb),fun _=>h⟩
theorem lY {ok:Nat→Prop} {ps:List PV} {g o len cap:Nat} (hl:ps.length=len) (hone:ps.all PV.one=true) (hok:ok g) (hcap:len≤cap) (vs:Nat→Value)
  (hc:∀ j,j < len→w.cell? ⟨g,o + j,none⟩=some (vs j)) (hr:∀ j (h:j < ps.length),Reads ok w ps[j] (vs j)):Reads ok w (.list ps) (.slice (some ⟨g,o,none⟩) len cap):=by
 subst hl
 have hf:=iA hone
 refine .list ps g o cap 1 vs hok (fun x hx=>?_) hcap (fun c hcl=>?_) fun c hcl=>?_
 ·rw [cells_one ((List.all_eq_true.1 hone) x hx)]; rfl
 ·rw [hf] at hcl; exact hc c hcl
 simp only [hf] at hcl ⊢; exact hr c hcl
theorem jJ (R:Rel C m s tmps w) {x:AV} {v:Value} (hv:aG (Reads (OK C m s.H w) w) m s.H x v) {p:Prop} {pv:PV} {b:Bool} (h:dB s.H x=some (p,pv,b)) (hp:p):qJ C m s.H w pv b v:=by
 unfold dB at h
 split at h
 ·simp only [Option.some.injEq,Prod.mk.injEq] at h
  obtain ⟨_,rfl,rfl⟩:=h
  exact .of hv.aP
 ·rename_i k lo len
  cases hv with
  | sl _ _ _ _ hk hs =>
   split at h
   ·rename_i c hg
    split at h<;>simp only [Option.some.injEq,Prod.mk.injEq,reduceCtorEq] at h
    rename_i ps hps
    obtain ⟨rfl,rfl,rfl⟩:=h
    obtain ⟨h1,h2⟩:=hp
    have hcs:=fN hps
    have hlen:ps.length=len:=by
     have:=congrArg List.length hcs
     simp only [List.length_take,List.length_drop,List.length_map] at this
     omega
    refine ⟨?_,fun h=>by cases h⟩
    rcases hs with ⟨rfl,ad,rfl⟩ | ⟨l,cap,hm,rfl,hc1,hc2⟩
    ·have:ps=[]:=List.eq_nil_of_length_eq_zero hlen
     subst this
     exact .list0 _ _ fun _=>rfl
    rcases R.blk k c (bh hg) with ⟨_,hn⟩ | ⟨l',cur,e,hm2,hB,hh,hs1,hs3,hs2,hcells⟩
    ·rw [hm] at hn; cases hn
    rw [hm] at hm2; cases hm2
    refine lY hlen h2 ⟨.inr hB,(Array.getElem?_eq_some_iff.1 hh).1⟩ hc1 (fun j=>cur.getD (l.o + (lo + j)) undef) (fun j hj=>?_) fun j hj=>?_
    ·rw [Nat.add_assoc]; exact cell_of hh (by omega)
    have:=hcells (lo + j) (by omega)
    have e:c[lo + j]'(by omega) = .p ps[j]:=by
     have h3:((c.drop lo).take len)[j]? = (ps.map AV.p)[j]?:=by rw [hcs]
     rw [List.getElem?_take,if_pos (by omega),List.getElem?_drop,List.getElem?_eq_getElem (by omega),List.getElem?_map,List.getElem?_eq_getElem hj] at h3
     simpa using h3
    rw [e] at this
    exact this.aP.mono (fun b hb=>uL b hb)
   ·rename_i c hg
    simp only [Option.some.injEq,Prod.mk.injEq] at h
    obtain ⟨rfl,rfl,rfl⟩:=h
    obtain ⟨h1,h2⟩:=hp
    have hlen:((c.drop lo).take len).length=len:=by simp only [List.length_take,List.length_drop]; omega
    refine .of ?_
    rcases hs with ⟨rfl,ad,rfl⟩ | ⟨l,cap,hm,rfl,hc1,hc2⟩
    ·simp only [List.take_zero]
     exact .list0 _ _ fun _=>rfl
    rcases R.fro k c (fX hg) with ⟨_,hn⟩ | ⟨l',vs,hm2,hB,hl,hcells⟩
    ·rw [hm] at hn; cases hn
    rw [hm] at hm2; cases hm2
    refine lY hlen h2 hB hc1 (fun j=>vs (lo + j)) (fun j hj=>?_) fun j hj=>?_
    ·rw [Nat.add_assoc]; exact (hcells (lo + j) (by omega)).1
    rw [hlen] at hj
    simp only [List.getElem_take,List.getElem_drop]
    exact (hcells (lo + j) (by omega)).2
   ·cases h
   ·cases h
   ·cases h
   cases h
 ·rename_i k i
  split at h
  ·rename_i c hg
   simp only [Option.some.injEq,Prod.mk.injEq] at h
   obtain ⟨rfl,rfl,rfl⟩:=h
   cases hv with
   | ptr _ _ _ hk hs =>
   obtain ⟨l,hm,rfl⟩:=hs
   rcases R.fro k c (fX hg) with ⟨_,hn⟩ | ⟨l',vs,hm2,hB,hl,hcells⟩
   ·rw [hm] at hn; cases hn
   rw [hm] at hm2; cases hm2
   refine .of (.ptr _ _ _ (fun j=>vs (i + j)) hB (fun j hj=>?_) fun j hj=>?_)
   ·simp only [List.length_drop] at hj
    rw [Nat.add_assoc]; exact (hcells (i + j) (by omega)).1
   simp only [List.length_drop] at hj
   simp only [List.getElem_drop]
   exact (hcells (i + j) (by omega)).2
  ·rename_i c hg
   split at h<;>simp only [Option.some.injEq,Prod.mk.injEq,reduceCtorEq] at h
   rename_i ps hps
   obtain ⟨rfl,rfl,rfl⟩:=h
   have hcs:=fN hps
   have hlen:ps.length=c.length - i:=by
    have:=congrArg List.length hcs
    simp only [List.length_drop,List.length_map] at this
    omega
   cases hv with
   | ptr _ _ _ hk hs =>
   obtain ⟨l,hm,rfl⟩:=hs
   refine ⟨?_,fun h=>by cases h⟩
   rcases R.blk k c (bh hg) with ⟨_,hn⟩ | ⟨l',cur,e,hm2,hB,hh,hs1,hs3,hs2,hcells⟩
   ·rw [hm] at hn; cases hn
   rw [hm] at hm2; cases hm2
   refine .ptr _ _ _ (fun j=>cur.getD (l.o + (i + j)) undef) ⟨.inr hB,(Array.getElem?_eq_some_iff.1 hh).1⟩ (fun j hj=>?_) fun j hj=>?_
   ·rw [Nat.add_assoc]; exact cell_of hh (by omega)
   have:=hcells (i + j) (by omega)
   have e:c[i + j]'(by omega) = .p ps[j]:=by
    have h3:(c.drop i)[j]? = (ps.map AV.p)[j]?:=by rw [hcs]
    rw [List.getElem?_drop,List.getElem?_eq_getElem (by omega),List.getElem?_map,List.getElem?_eq_getElem hj] at h3
    simpa using h3
   rw [e] at this
   exact this.aP.mono (fun b hb=>uL b hb)
  ·cases h
  ·cases h
  ·cases h
  cases h
 cases h
theorem dz {f:AV→Option (Prop × PV × Bool)} {H:aw} {R0:AV→Value→Prop} (hf:∀ {x v p pv b},R0 x v→f x=some (p,pv,b)→p→qJ C m H w pv b v) :
  ∀ (l:List AV) (vs:Nat→Value) {p:Prop} {ps:List PV} {b:Bool},(∀ c (h:c < l.length),R0 l[c] (vs c))→cq f l=some (p,ps,b)→p→ps.length=l.length∧(∀ c (h:c < ps.length),Reads (H7 C w) w ps[c] (vs c))∧(b=true→∀ c (h:c < ps.length),Reads (OK C m H w) w ps[c] (vs c))
 | [],vs,p,ps,b,_,h,_=>by
  simp only [cq,Option.some.injEq,Prod.mk.injEq] at h
  obtain ⟨_,rfl,_⟩:=h
  exact ⟨rfl,fun c h=>by simp at h,fun _ c h=>by simp at h⟩
 | x :: r,vs,p,ps,b,hr,h,hp=>by
  simp only [cq] at h
  split at h<;>simp only [Option.some.injEq,Prod.mk.injEq,reduceCtorEq] at h
  rename_i p1 v1 b1 q1 l1 c1 h1 h2
  obtain ⟨rfl,rfl,rfl⟩:=h
  have a1:=hf (hr 0 (by simp)) h1 hp.1
  obtain ⟨e1,e2,e3⟩:=dz (R0:=R0) (f:=f) (fun h1 h2 h3=>hf h1 h2 h3) r (fun c=>vs (c + 1)) (fun c hc=>by have:=hr (c + 1) (by simpa using hc); simpa using this) h2 hp.2
  refine ⟨by simp [e1],fun c hc=>?_,fun hb c hc=>?_⟩
  ·cases c with
   | zero=>exact a1.1
   | succ c=>exact e2 c (by simpa using hc)
  rw [Bool.and_eq_true] at hb
  cases c with
  | zero=>exact a1.2 hb.1
  | succ c=>exact e3 hb.2 c (by simpa using hc)
theorem fL (R:Rel C m s tmps w) {x:AV} {v:Value} (hv:aG (Reads (OK C m s.H w) w) m s.H x v) {p:Prop} {pv:PV} {b:Bool} (h:dK s.H x=some (p,pv,b)) (hp:p):qJ C m s.H w pv b v:=by
 unfold dK at h
 split at h
 ·rename_i l
  split at h<;>simp only [Option.some.injEq,Prod.mk.injEq,reduceCtorEq] at h
  rename_i p1 ps b1 hl
  obtain ⟨rfl,rfl,rfl⟩:=h
  cases hv with
  | agg _ vs hsz hr =>
   obtain ⟨e1,e2,e3⟩:=dz (fun {x v p pv b} (hx:aG (Reads (OK C m s.H w) w) m s.H x v) h hp=>jJ R hx h hp) l (fun c=>vs.getD c undef) hr hl hp
   exact ⟨.agg _ _ (by omega) e2,fun hb=>.agg _ _ (by omega) (e3 hb)⟩
 ·rename_i f l
  split at h<;>simp only [Option.some.injEq,Prod.mk.injEq,reduceCtorEq] at h
  rename_i p1 ps b1 hl
  obtain ⟨rfl,rfl,rfl⟩:=h
  cases hv with
  | cl _ _ vs hsz hr =>
   obtain ⟨e1,e2,e3⟩:=dz (fun {x v p pv b} (hx:aG (Reads (OK C m s.H w) w) m s.H x v) h hp=>jJ R hx h hp) l (fun c=>vs.getD c undef) hr hl hp
   exact ⟨.fn _ _ _ (by omega) e2,fun hb=>.fn _ _ _ (by omega) (e3 hb)⟩
 exact jJ R hv h hp
theorem xP (R:Rel C m s tmps w) {x:AV} {v:Value} (hv:aG (Reads (OK C m s.H w) w) m s.H x v) {p:Prop} {pv:PV} {b:Bool} (h:ui s.H x=some (p,pv,b)) (hp:p):qJ C m s.H w pv b v:=by
 unfold ui at h
 split at h
 ·rename_i l
  split at h<;>simp only [Option.some.injEq,Prod.mk.injEq,reduceCtorEq] at h
  rename_i p1 ps b1 hl
  obtain ⟨rfl,rfl,rfl⟩:=h
  cases hv with
  | tup _ vs hsz hr =>
   obtain ⟨e1,e2,e3⟩:=dz (fun {x v p pv b} (hx:aG (Reads (OK C m s.H w) w) m s.H x v) h hp=>fL R hx h hp) l (fun c=>vs.getD c undef) hr hl hp
   exact ⟨.tup _ _ (by omega) e2,fun hb=>.tup _ _ (by omega) (e3 hb)⟩
 exact fL R hv h hp
theorem py {ok ok' : Nat→Prop} {w' : World} {p:PV} {v:Value} (h:Reads ok w p v) (hf:p.fQ=true):Reads ok' w' p v:=by
 have sc:∀ {p:PV} {v:Value},Reads ok w p v→(match p with | .int _ _=>true | .bool _=>true | .str _=>true | _=>false)=true→Reads ok' w' p v:=by
  intro p v h hf
  cases h<;>simp at hf
  ·exact .int _ _
  ·exact .bool _
  exact .str _
 have ag:∀ {l:List PV} {vs:Array Value},Reads ok w (.agg l) (.agg vs)→(l.all fun | .int _ _=>true | .bool _=>true | .str _=>true | _=>false)=true→Reads ok' w' (.agg l) (.agg vs):=by
  intro l vs h hf
  cases h with
  | agg _ _ hl hr =>
   refine .agg _ _ hl fun c hc=>sc (hr c hc) ?_
   have:=(List.all_eq_true.1 hf) l[c] (List.getElem_mem hc)
   exact this
 cases h with
 | int k i=>exact .int _ _
 | bool b=>exact .bool _
 | str s=>exact .str _
 | nil=>exact .nil
 | agg l vs hl hr=>exact ag (.agg l vs hl hr) hf
 | tup l vs hl hr =>
  refine .tup _ _ hl fun c hc=>?_
  have h1:=(List.all_eq_true.1 hf) l[c] (List.getElem_mem hc)
  have h2:=hr c hc
  generalize l[c]=x at h1 h2 ⊢
  generalize vs.getD c undef=v at h2 ⊢
  cases h2 with
  | int k i=>exact .int _ _
  | bool b=>exact .bool _
  | str s=>exact .str _
  | agg l vs hl hr=>exact ag (.agg l vs hl hr) h1
  | _=>simp at h1
 | _=>simp [PV.fQ] at hf
def Ip (P:Program) (g:FuncId):Prop:=∃ fn,P.funcs[g]? = some fn∧(fn.name == "runtime.NumGoroutine")=false∧fn.body.isNone=false
def bL (P:Program) (f:FuncId) (args:List PV) (r:PV):Prop:=
 Ip P f∧∀ (okA:Nat→Prop) (w:World) (vals:Array Value),pj okA w→vals.size=args.length→(∀ i (h:i < args.length),Reads okA w args[i] (vals.getD i undef)) →
  Calls P f vals w fun e w'=>∃ v,e = .returned v∧Below w.heap.size w w'∧Reads (HY okA w w') w' r v
def gk (s:St) (fo:Operand) (args:Array Operand):Option (FuncId × List PV × Prop × Bool):=
 match s.ev fo with
 | .p (.fn g cap) =>
  match cq (dK s.H) (args.toList.map s.ev) with
  | some (p,pvs,b)=>some (g,pvs++cap,p,b)
  | none=>none
 | _=>none
theorem tT {s s2:St} {fo:Operand} {args:Array Operand} {ts:Array TypeId} (h:∀ x∈(Op.call { callee:=.value fo,args:=args,argTypes:=ts }).operands,s2.ev x=s.ev x) (hH:s2.H=s.H):gk s2 fo args=gk s fo args:=by
 simp only [Op.operands,Call.operands] at h
 have h1:s2.ev fo=s.ev fo:=h fo (by simp)
 have h2:args.toList.map s2.ev=args.toList.map s.ev:=List.map_congr_left fun x hx=>h x (by simp; right; simpa using hx)
 unfold gk
 rw [h1,h2,hH]
theorem mj {o:Oper} {fo:Operand} {args:Array Operand} {ts:Array TypeId} (ho:o.op = .call { callee:=.value fo,args:=args,argTypes:=ts }) {g:FuncId} {avs:List PV} {p:Prop} {b:Bool} {r:PV}
  (hc:bL P g avs r) (hcall:gk s fo args=some (g,avs,p,b)) (hp:p) (hb:(b || r.fQ)=true):eZ P o s (.p r) s.H:=by
 intro C m a w K Q R hK
 unfold gk at hcall
 split at hcall
 ·rename_i g' cap hf
  split at hcall<;>simp only [Option.some.injEq,Prod.mk.injEq,reduceCtorEq] at hcall
  rename_i p' pvs b' hpl
  obtain ⟨rfl,rfl,rfl,rfl⟩:=hcall
  have hfv:=R.ev fo
  rw [hf] at hfv
  generalize hfe:a.eval fo=fv at hfv
  have hfv:=hfv.aP
  cases hfv with
  | fn _ _ vs hcl hcr =>
   obtain ⟨⟨fn,hfn,hnm,hbd⟩,hcalls⟩:=hc
   obtain ⟨e1,e2,e3⟩:=dz (C:=C) (m:=m) (w:=w) (H:=s.H) (fun {x v p pv b} (hx:aG (Reads (OK C m s.H w) w) m s.H x v) h hp=>fL R hx h hp) (args.toList.map s.ev) (fun c=>(args.toList.map a.eval).getD c undef) (fun c hc=>by
    simp only [List.length_map] at hc
    have:=R.ev (args.toList[c])
    simpa [List.getD,List.getElem?_map,List.getElem?_eq_getElem hc] using this) hpl hp
   simp only [List.length_map] at e1
   have hvals:∀ i (h:i < (pvs++cap).length),(args.map a.eval++vs).getD i undef=if i < pvs.length then (args.toList.map a.eval).getD i undef else vs.getD (i - pvs.length) undef:=by
    intro i hi
    simp only [Array.getD_eq_getD_getElem?]
    by_cases hip:i < pvs.length
    ·rw [if_pos hip,Array.getElem?_append_left (by simp at e1 ⊢; omega)]
     simp [List.getD]
    rw [if_neg hip,Array.getElem?_append_right (by simp at e1 ⊢; omega)]
    congr 2
    simp at e1 ⊢; omega
   have hrun:(execOp a.eval o).run P w = .ok (.enter g' (args.map a.eval++vs)) w:=by
    have hnm' : ¬ fn.name = "runtime.NumGoroutine":=by simpa using hnm
    have hbd' : ¬ fn.body=none:=by intro e; rw [e] at hbd; simp at hbd
    simp [execOp,ho,resolve,hfe,Deferred.ofValue,invoke,callFunc,hfn,hnm',hbd']
   refine eF (by rw [ho]; rfl) ?_
   unfold Oper.wp
   rw [hrun]
   simp only [Oper.upon]
   have hsz:(args.map a.eval++vs).size=(pvs++cap).length:=by simp at e1 ⊢; omega
   have done:∀ (okA:Nat→Prop),pj okA w→(∀ i (h:i < (pvs++cap).length),Reads okA w (pvs++cap)[i] ((args.map a.eval++vs).getD i undef)) →
     (∀ w' v,Below w.heap.size w w'→Reads (HY okA w w') w' r v→Reads (OK C m s.H w') w' r v)→Calls P g' (args.map a.eval++vs) w fun
      | .returned v,w''=>K (a.put o.dst v) w''
      | .panicked chain,w''=>Q (.panic chain) a w''
      | .outgrown,_=>LetsOut Q:=by
    intro okA h1 h2 h3
    refine (hcalls okA w _ h1 hsz h2).mono fun e w' ⟨v,he,hbl,hv⟩=>?_
    subst he
    exact hK v m w' (R.later hbl) (.p _ _ (h3 w' v hbl hv))
   cases b' with
   | true =>
    refine done (OK C m s.H w) R.yK (fun i hi=>?_) fun w' v hbl hv=>?_
    ·rw [hvals i hi]
     by_cases hip:i < pvs.length
     ·rw [if_pos hip,List.getElem_append_left hip]; exact e3 rfl i hip
     rw [if_neg hip,List.getElem_append_right (by omega)]; exact hcr _ (by simp at hi; omega)
    refine hv.mono fun b hb=>?_
    obtain ⟨hb1,hb2⟩:=hb
    rcases hb1 with hb1 | hb1
    ·exact Rel.AN hbl b hb1
    refine ⟨.inr (R.base _ hb1),hb2,fun k c l hk hl e'=>?_⟩
    rcases R.blk k c hk with ⟨_,hn⟩ | ⟨l2,cur,e2,hl2,_,hg,_⟩
    ·rw [hl] at hn; cases hn
    rw [hl] at hl2; cases hl2
    have:=(Array.getElem?_eq_some_iff.1 hg).1
    have hb1:w.heap.size≤b:=hb1
    omega
   | false =>
    have hfl:r.fQ=true:=by simpa using hb
    refine done (fun b=>b < w.heap.size) R.E9 (fun i hi=>?_) fun w' v hbl hv=>py hv hfl
    rw [hvals i hi]
    by_cases hip:i < pvs.length
    ·rw [if_pos hip,List.getElem_append_left hip]; exact (e2 i hip).mono fun b hb=>hb.2
    rw [if_neg hip,List.getElem_append_right (by omega)]; exact (hcr _ (by simp at hi; omega)).mono fun b hb=>hb.2.1
 cases hcall
theorem zT {o:Oper} {fo:Operand} {args:Array Operand} {ts:Array TypeId} (ho:o.op = .call { callee:=.value fo,args:=args,argTypes:=ts }) {g:FuncId} {avs:List PV} {p:Prop} {b:Bool} {r:PV}
  (hc:bL P g avs r) (hcall:gk s fo args=some (g,avs,p,b)) (hp:p) (hb:(b || r.fQ)=true):BK P o s (.p r) s.H:=by
 refine ⟨fun s2 hn ha hH=>?_,fun hf=>?_,fun _=>rfl⟩
 ·have:=tT (ts:=ts) (s:=s) (s2:=s2) (fo:=fo) (args:=args) (by rw [← ho]; exact ha) hH
  rw [hcall] at this
  rw [← hH]
  exact mj ho hc this hp hb
 rw [ho] at hf; simp [jx] at hf
theorem al {draw:Bool} {all:Array Oper} {rest:List Oper} {K:St→Prop} {dst:Option Tmp} {ty:TypeId} {pos:String} {aft:Array Edge} {gd:Option (Nat × Bool)} {fo:Operand} {args:Array Operand} {ts:Array TypeId} {g:FuncId} {avs:List PV} {p:Prop} {b:Bool} {r:PV}
  (hc:bL P g avs r) (hg:bt all s { dst:=dst,op:=.call { callee:=.value fo,args:=args,argTypes:=ts },type:=ty,pos:=pos,after:=aft,guard:=gd } = some true)
  (hcall:gk s fo args=some (g,avs,p,b)) (hb:(b || r.fQ)=true) (hd:au s dst) (hp:p) (h:gY P draw all rest K (s.put dst (.p r))) :
  gY P draw all ({ dst:=dst,op:=.call { callee:=.value fo,args:=args,argTypes:=ts },type:=ty,pos:=pos,after:=aft,guard:=gd } :: rest) K s:=by
 obtain ⟨s',hr,hK⟩:=h
 exact ⟨s',.cons (.op s (.p r) s.H hg (cM hd) (mj rfl hc hcall hp hb) fun _=>zT rfl hc hcall hp hb) hr,hK⟩
def yu:Nat→List PV→List (Nat × AV)
 | _,[]=>[]
 | k,a :: r=>(k,.p a) :: yu (k + 1) r
def entry (n:Nat) (args:List PV):St:=⟨n,yu 0 args,[]⟩
def Ag (T:TypeId→Option TI) (s:St):ResultVar→Option (Prop × AV)
 | .tmp t=>some (True,s.get t)
 | .cell x t =>
  match T t with
  | some ti=>match iM ti s.H (s.get x) with | some r=>some (r.vc,r.av) | none=>none
  | none=>none
def mc (T:TypeId→Option TI) (s:St):List ResultVar→Option (Prop × List AV)
 | []=>some (True,[])
 | x :: r =>
  match Ag T s x,mc T s r with
  | some (p,v),some (q,l)=>some (p∧q,v :: l)
  | _,_=>none
def iW (l:List AV):AV:=
 match l with
 | [x]=>x
 | l=>match eJ l with | some ps=>.p (.tup ps) | none=>.tup l
def PV.mD:PV→PV
 | .nil=>.list []
 | .nn l=>.list l
 | .nz=>.list []
 | p=>p
def PV.qp:PV→PV
 | .agg l=>.agg (l.map PV.mD)
 | p=>p.mD
def PV.norm:PV→PV
 | .tup l=>.tup (l.map PV.qp)
 | p=>p.qp
theorem mO {ok:Nat→Prop} {pv:PV} {v:Value} (h:Reads ok w pv v):Reads ok w pv.mD v:=by
 unfold PV.mD
 split
 ·exact h.sO
 ·exact h.wm
 ·cases h with
  | nz a cap=>exact .list0 _ _ fun h=>by cases h
 exact h
theorem mA {ok:Nat→Prop} {pv:PV} {v:Value} (h:Reads ok w pv v):Reads ok w pv.qp v:=by
 unfold PV.qp
 split
 ·cases h with
  | agg l vs hl hr =>
   refine .agg _ _ (by simpa using hl) fun c hc=>?_
   rw [List.getElem_map]
   exact mO (hr c (by simpa using hc))
 exact mO h
theorem uN {ok:Nat→Prop} {pv:PV} {v:Value} (h:Reads ok w pv v):Reads ok w pv.norm v:=by
 unfold PV.norm
 split
 ·cases h with
  | tup l vs hl hr =>
   refine .tup _ _ (by simpa using hl) fun c hc=>?_
   rw [List.getElem_map]
   exact mA (hr c (by simpa using hc))
 exact mA h
def zG (T:TypeId→Option TI) (rs:List ResultVar) (r:PV) (s:St):Prop:=
 match mc T s rs with
 | some (p,l)=>match ui s.H (iW l) with | some (q,pv,_)=>p∧q∧pv.norm=r | none=>False
 | none=>False
def B0 (T:TypeId→Option TI) (rs:List ResultVar) (r:PV):Exit→St→Prop
 | .normal,s=>zG T rs r s
 | .ret,s=>zG T rs r s
 | _,_=>False
theorem uZ:∀ (l:List PV) (k t:Nat),lk (yu k l) t=if k≤t then (match l[t - k]? with | some a=>.p a | none=>.dead) else .dead
 | [],k,t=>by simp [yu,lk]
 | a :: r,k,t=>by
  simp only [yu,lk]
  by_cases h:k=t
  ·subst h; simp
  rw [show (k == t)=false by simpa using h]
  simp only [cond_false]
  rw [uZ r (k + 1) t]
  by_cases hk:k≤t
  ·rw [if_pos (by omega),if_pos hk,show t - k=(t - (k + 1)) + 1 by omega]; rfl
  rw [if_neg (by omega),if_neg hk]
def uA (tmps:Array Value):ResultVar→Sem Value
 | .tmp t=>pure (tmps.getD t undef)
 | .cell a t=>do loadVar t (← asAddr (tmps.getD a undef))
theorem kv (fn:Func) (tmps:Array Value):results fn tmps=(do
  let vs ← fn.results.mapM (uA tmps)
  pure (if h:vs.size=1 then vs[0] else .tuple vs)):=by
 unfold results
 have:(fun x=>match x with
  | .tmp t=>pure (tmps.getD t undef)
  | .cell a t=>do loadVar t (← asAddr (tmps.getD a undef)):ResultVar→Sem Value)=uA tmps:=by
  funext x; cases x<;>rfl
 rw [← this]
 rfl
theorem Dk (hT:∀ t ti,T t=some ti→bp P t=some ti) {a:Act} (R:Rel C m s a.tmps w) {x:ResultVar} {p:Prop} {av:AV} (h:Ag T s x=some (p,av)) (hp:p) :
  ∃ v,(uA a.tmps x).run P w = .ok v w∧aG (Reads (OK C m s.H w) w) m s.H av v:=by
 cases x with
 | tmp t =>
  simp only [Ag,Option.some.injEq,Prod.mk.injEq] at h
  obtain ⟨_,rfl⟩:=h
  exact ⟨_,rfl,R.slot t⟩
 | cell b t =>
  simp only [Ag] at h
  split at h
  ·rename_i ti ht
   split at h<;>simp only [Option.some.injEq,Prod.mk.injEq,reduceCtorEq] at h
   rename_i r hr
   obtain ⟨rfl,rfl⟩:=h
   obtain ⟨_,v,hrun,hv⟩:=oJ hT R (o:={ dst:=none,op:=.load t (.tmp b),type:=0,pos:="",after:=#[],guard:=none }) (x:=.tmp b) rfl ht (by simpa [St.ev] using hr) hp
   refine ⟨v,?_,hv⟩
   simp only [execOp,Instr.loadAt,Act.eval,Sem.run_bind] at hrun
   cases hpv:a.tmps.getD b undef with
   | pointer ad =>
    rw [hpv] at hrun
    cases ad with
    | some ad =>
     simp only [Instr.sureAddr,Sem.run_pure,Result.andThen_ok] at hrun
     simp only [uA,hpv,asAddr,Sem.run_bind,Sem.run_pure,Result.andThen_ok]
     cases hl:(loadVar t ad).run P w<;>rw [hl] at hrun<;>simp [Result.andThen] at hrun
     rw [hrun.1,hrun.2]
    | none=>simp [Instr.sureAddr] at hrun
   | _=>rw [hpv] at hrun; simp [Instr.sureAddr] at hrun
  cases h
theorem kN (hT:∀ t ti,T t=some ti→bp P t=some ti) {a:Act} (R:Rel C m s a.tmps w):∀ (l:List ResultVar) {p:Prop} {avs:List AV},mc T s l=some (p,avs)→p →
  ∃ vs:List Value,(l.mapM (uA a.tmps)).run P w = .ok vs w∧vs.length=avs.length∧∀ c (h:c < avs.length),aG (Reads (OK C m s.H w) w) m s.H avs[c] (vs.getD c undef)
 | [],p,avs,h,_=>by
  simp only [mc,Option.some.injEq,Prod.mk.injEq] at h
  obtain ⟨_,rfl⟩:=h
  exact ⟨[],rfl,rfl,fun c h=>by simp at h⟩
 | x :: r,p,avs,h,hp=>by
  simp only [mc] at h
  split at h<;>simp only [Option.some.injEq,Prod.mk.injEq,reduceCtorEq] at h
  rename_i p1 v1 q1 l1 h1 h2
  obtain ⟨rfl,rfl⟩:=h
  obtain ⟨v,e1,e2⟩:=Dk hT R h1 hp.1
  obtain ⟨vs,f1,f2,f3⟩:=kN hT R r h2 hp.2
  refine ⟨v :: vs,?_,by simp [f2],fun c hc=>?_⟩
  ·rw [List.mapM_cons]
   simp only [Sem.run_bind,e1,Result.andThen_ok,f1,Sem.run_pure]
  cases c with
  | zero=>exact e2
  | succ c=>simpa [List.getD] using f3 c (by simpa using hc)
theorem lP {ok:Nat→Prop} {H:aw} {l:List AV} {vs:List Value} (hl:vs.length=l.length) (hr:∀ c (h:c < l.length),aG (Reads ok w) m H l[c] (vs.getD c undef)) :
  aG (Reads ok w) m H (iW l) (if h:vs.toArray.size=1 then vs.toArray[0] else .tuple vs.toArray):=by
 unfold iW
 split
 ·rename_i x
  match vs,hl with
  | [v],_=>simpa using hr 0 (by simp)
 rename_i hne
 have h1:¬ vs.toArray.size=1:=by
  intro e
  have:l.length=1:=by simp at e; omega
  obtain ⟨x,rfl⟩:=List.length_eq_one_iff.1 this
  exact hne x rfl
 rw [dif_neg h1]
 have hr' : ∀ c (h:c < l.length),aG (Reads ok w) m H l[c] (vs.toArray.getD c undef):=by
  intro c hc
  have:=hr c hc
  simpa [List.getD,Array.getD_eq_getD_getElem?] using this
 split
 ·rename_i ps hps
  have e:=fN hps
  subst e
  refine .p _ _ (.tup _ _ (by simpa using hl) fun c hc=>?_)
  have:=hr' c (by simpa using hc)
  simp only [List.getElem_map] at this
  exact this.aP
 exact .tup _ _ (by simpa using hl) hr'
theorem aK (hT:∀ t ti,T t=some ti→bp P t=some ti) {f:FuncId} {fn:Func} {c:Code} {args:List PV} {r:PV} (hf:P.funcs[f]? = some fn) (hb:fn.body=some c) (hnm:(fn.name == "runtime.NumGoroutine")=false) (hn:args.length≤fn.ntmps)
  (h:Holds P c (B0 T fn.results.toList r) (entry fn.ntmps args)):bL P f args r:=by
 refine ⟨⟨fn,hf,hnm,by rw [hb]; rfl⟩,fun okA w vals hok hsz hrd=>calls_of_wp hf hb (pt.1 ?_)⟩
 have hslot:∀ t,(vals++Array.replicate (fn.ntmps - vals.size) undef).getD t undef=if t < vals.size then vals.getD t undef else undef:=by
  intro t
  simp only [Array.getD_eq_getD_getElem?]
  by_cases ht:t < vals.size
  ·rw [if_pos ht,Array.getElem?_append_left ht]
  rw [if_neg ht,Array.getElem?_append_right (by omega),Array.getElem?_replicate]
  split<;>rfl
 have R:Rel (fresh okA w) (fun _=>none) (entry fn.ntmps args) (vals++Array.replicate (fn.ntmps - vals.size) undef) w:=by
  have hOK:∀ b,okA b→OK (fresh okA w) (fun _=>none) [] w b:=fun b hb=>⟨.inl hb,hok.1 b hb,fun k c l h=>by simp at h⟩
  refine ⟨fun g l hg=>(hok.2 g l hg).mono hOK,bV.refl _ _,fun _ h=>h,by simp [entry]; omega,fun k k' c c' l l' h=>by simp [entry] at h,fun k c h=>by simp [entry] at h,fun k c h=>by simp [entry] at h,fun t=>?_,fun k kk d v h=>by simp [entry] at h,fun k k' kk d v kk' d' v' l l' h=>by simp [entry] at h,fun k i j h=>by simp [entry] at h,fun k r h=>by simp [entry] at h,fun k k' r r' l l' h=>by simp [entry] at h⟩
  rw [hslot]
  unfold St.get entry
  simp only
  rw [uZ]
  simp only [Nat.zero_le,if_true,Nat.sub_zero]
  by_cases ht:t < args.length
  ·rw [List.getElem?_eq_getElem ht,if_pos (by omega)]
   exact .p _ _ ((hrd t ht).mono hOK)
  rw [List.getElem?_eq_none (by omega)]
  exact .dead _
 refine gJ (h none [] _ _ { tmps:=vals++Array.replicate (fn.ntmps - vals.size) undef,defers:=[] } w R rfl) fun e a' w' ⟨s',m',h1,h2,h3⟩=>?_
 have fini:zG T fn.results.toList r s'→a'.defers=[]∧∃ v,(results fn a'.tmps).run P w' = .ok v w'∧∃ v_1,Ending.returned v = .returned v_1∧Below w.heap.size w w'∧Reads (HY okA w w') w' r v_1:=by
  intro he
  unfold zG at he
  split at he
  ·rename_i p l hl
   split at he
   ·rename_i q pv b hpk
    obtain ⟨hp,hq,rfl⟩:=he
    obtain ⟨vs,e1,e2,e3⟩:=kN hT h2 fn.results.toList hl hp
    have hv:=lP (w:=w') e2 e3
    have hpv:=xP h2 hv hpk hq
    refine ⟨h3,_,?_,_,rfl,h2.below.below (fun _ h=>h),uN hpv.1⟩
    rw [kv,Array.mapM_eq_mapM_toList]
    simp only [Sem.run_bind,Sem.run_map]
    rw [e1]
    simp only [Result.andThen_ok]
    rfl
   exact he.elim
  exact he.elim
 cases e with
 | normal=>exact fini h1
 | ret=>exact fini h1
 | _=>exact h1.elim
end
open Go.RowKit
section
variable {P:Program} {T:TypeId→Option TI} {C:Ctx} {m:Map} {s:St} {tmps:Array Value} {w:World} {Q:Exit→St→Prop}
theorem Rel.freeze (R:Rel C m s tmps w) {k:Nat} {c:List AV} {ps:List PV} (hk:aq s.H k = .own c) (hc:eJ c=some ps):Rel C m { s with H:=aE s.H k (.fro ps) } tmps w:=by
 have hk:=bh hk
 have hkl:k < s.H.length:=(List.getElem?_eq_some_iff.1 hk).1
 have hcs:=fN hc
 have aq:∀ (j:Nat) (b:aM),(aE s.H k (.fro ps))[j]? = some b→(j=k∧b = .fro ps)∨(j ≠ k∧s.H[j]? = some b):=by
  intro j b h
  rw [cm] at h
  by_cases e:j=k
  ·rw [if_pos ⟨e,hkl⟩] at h; exact .inl ⟨e,(Option.some.inj h).symm⟩
  rw [if_neg (by simp [e])] at h; exact .inr ⟨e,h⟩
 have own:∀ (j:Nat) (d:List AV),(aE s.H k (.fro ps))[j]? = some (.own d)→j ≠ k∧s.H[j]? = some (.own d):=by
  intro j d h
  rcases aq j _ h with ⟨_,h⟩ | h
  ·cases h
  exact h
 have hok:∀ b,OK C m s.H w b→∀ j d l,(aE s.H k (.fro ps))[j]? = some (.own d)→m j=some l→l.g ≠ b:=fun b hb j d l h hl=>hb.2.2 j d l (own j d h).2 hl
 have ho:∀ b,OK C m s.H w b→OK C m (aE s.H k (.fro ps)) w b:=fun b h=>⟨h.1,h.2.1,hok b h⟩
 refine R.heap (bV.refl _ _) (by simp [aA]) (fun _ _=>rfl) hok (fun _ _=>rfl) ?_ ?_ ?_ (lE rfl)
 ·exact fun j j' c1 c2 l1 l2 h1 h2 h3 h4 h5=>R.inj j j' c1 c2 l1 l2 (own j _ h1).2 (own j' _ h2).2 h3 h4 h5
 ·exact fun j d h=>(R.blk j d (own j d h).2).ext (fun p v h=>h.ext ho fun _ _=>rfl) (by simp [aA]) (fun _ _=>rfl) rfl fun _ _=>rfl
 intro j d h
 rcases aq j _ h with ⟨rfl,h'⟩ | ⟨hne,h⟩
 ·cases h'
  rcases R.blk j c hk with ⟨hc0,hn⟩ | ⟨l,cur,e,hl,hB,hg,h1,h2,h3,hcells⟩
  ·subst hc0
   exact .inl ⟨by simpa using hcs,hn⟩
  have hlen:c.length=ps.length:=by rw [hcs]; simp
  refine .inr ⟨l,fun i=>cur.getD (l.o + i) undef,hl,⟨.inr hB,(Array.getElem?_eq_some_iff.1 hg).1,fun j' d' l' h' hl' e'=>?_⟩,by omega,fun i hi=>⟨cell_of hg (by omega),?_⟩⟩
  ·obtain ⟨h1,h2⟩:=own j' d' h'
   exact h1 (R.inj j' j d' c l' l h2 hk hl' hl e')
  have:=hcells i (by omega)
  have e:c[i]'(by omega) = .p ps[i]:=by simp [hcs]
  rw [e] at this
  exact this.aP.mono ho
 exact (R.fro j d h).ext ho (fun _ _=>rfl) rfl
theorem bX {c:Code} (k:Nat) {b:List AV} {ps:List PV} (hk:aq s.H k = .own b) (hc:eJ b=some ps) (h:Holds P c Q { s with H:=aE s.H k (.fro ps) }):Holds P c Q s:=
 fun r ds C m a w R hd=>h r ds C m a w (R.freeze hk hc) hd
theorem Rel.pure (R:Rel C m s tmps w) {t:Nat} {p:Prop} {pv:PV} (h:dK s.H (s.get t)=some (p,pv,true)) (hp:p):Rel C m { s with sl:=(t,.p pv) :: s.sl } tmps w:=by
 refine ⟨R.laid,R.below,R.base,R.size,R.inj,R.blk,R.fro,fun t'=>?_,R.mp⟩
 by_cases e:t=t'
 ·subst e
  have e2:({ s with sl:=(t,AV.p pv) :: s.sl } : St).get t = .p pv:=by simp [St.get,lk]
  rw [e2]
  exact .p _ _ ((fL R (R.slot t) h hp).2 rfl)
 have e2:({ s with sl:=(t,AV.p pv) :: s.sl } : St).get t' = s.get t':=by simp [St.get,lk,show (t == t')=false by simpa using e]
 rw [e2]
 exact R.slot t'
theorem nH {c:Code} (t:Nat) {p:Prop} {pv:PV} (hk:dK s.H (s.get t)=some (p,pv,true)) (hp:p) (h:Holds P c Q { s with sl:=(t,.p pv) :: s.sl }):Holds P c Q s:=
 fun r ds C m a w R hd=>h r ds C m a w (R.pure hk hp) hd
theorem F3 (k:IntKind) (i:Int):(PV.int k i).cells=[.int k i]:=rfl
theorem Cp (b:Bool):(PV.bool b).cells=[.bool b]:=rfl
theorem F1 (b:ByteArray):(PV.str b).cells=[.str b]:=rfl
theorem BT (l:List PV):(PV.list l).cells=[.list l]:=rfl
theorem GI (l:List PV):(PV.nn l).cells=[.nn l]:=rfl
theorem EE:PV.nil.cells=[.nil]:=rfl
theorem Ef (l:List PV):(PV.agg l).cells=l:=rfl
theorem Em (l:List PV):(PV.ptr l).cells=[.ptr l]:=rfl
theorem Gr (f:FuncId) (l:List PV):(PV.fn f l).cells=[.fn f l]:=rfl
theorem F9:(true == true)=true:=rfl
theorem E7:(true == false)=false:=rfl
theorem Ey:(false == true)=false:=rfl
theorem FP:(false == false)=true:=rfl
theorem af {draw:Bool} {all:Array Oper} {K:St→Prop} {vc:Prop} (h1:vc) (h2:K s):fin P draw all K (.run vc s):=⟨h1,h2⟩
theorem an {draw:Bool} {all:Array Oper} {K:St→Prop} {vc:Prop} {r:List Oper} (h1:vc) (h2:gY P draw all r K s):fin P draw all K (.stop vc r s):=⟨h1,h2⟩
def il (w:List Int):List PV:=w.map (PV.int .i64)
theorem aI (w:List Int):(il w).length=w.length:=by simp [il]
theorem aT {w:List Int} {i:Nat} (h:i < w.length):(il w).getD i default = .int .i64 (w.getD i 0):=by
 simp [il,List.getD,List.getElem?_eq_getElem h]
theorem iF (w:List Int):(il w).all PV.one=true:=by
 simp [il,PV.one]
theorem Aq (w:List Int):(il w).all (fun x=>x.cells.length == 1)=true:=by
 simp [il,PV.cells]
theorem qX (w:List Int) (n:Nat):(il w).take n=il (w.take n):=by simp [il]
theorem Cu (w:List Int) (n:Nat):(il w).drop n=il (w.drop n):=by simp [il]
theorem Da (x:Int) (w:List Int):il (x :: w) = .int .i64 x :: il w:=rfl
def ol (w:List Int):List AV:=(il w).map .p
theorem cV (w:List Int):(ol w).length=w.length:=by simp [ol,il]
theorem bB {w:List Int} {i:Nat} (h:i < w.length) (d:AV):(ol w).getD i d = .p (.int .i64 (w.getD i 0)):=by
 simp [ol,il,List.getD,List.getElem?_eq_getElem h]
theorem wC (w:List Int) (n:Nat):(ol w).take n=ol (w.take n):=by simp [ol,il]
theorem r9 (w:List Int) (n:Nat):(ol w).drop n=ol (w.drop n):=by simp [ol,il]
theorem qD (v w:List Int):ol v++ol w=ol (v++w):=by simp [ol,il]
theorem qW (v:List Int) (x:Int):ol v++[.p (.int .i64 x)]=ol (v++[x]):=by simp [ol,il]
theorem km:ol []=[]:=rfl
theorem C2 (x:Int) (w:List Int):ol (x :: w) = .p (.int .i64 x) :: ol w:=rfl
theorem DZ (w:List Int):(ol w).all bn=true:=by simp [ol,il,bn,PV.one]
theorem pB (w:List Int) (π:List Nat):(ol w).map (Go.Pv.bg π)=ol w:=by simp [ol,il,Go.Pv.bg,bu]
theorem fV (w:List Int) (n:Nat):(ol w).all (bb n)=true:=by simp [ol,il,bb,bq]
theorem jF (w:List Int):eJ (ol w)=some (il w):=by
 induction w with
 | nil=>rfl
 | cons x r ih=>simp only [C2,eJ,ih,Option.map_some,Da]
theorem Hj (w:List Int):(il w).map AV.p=ol w:=rfl
theorem dV {w:List Int} {i:Nat} (x:Int):(ol w).set i (.p (.int .i64 x))=ol (w.set i x):=by
 simp [ol,il,List.map_set]
theorem b9 (n:Nat):List.replicate n (AV.p (.int .i64 0))=ol (List.replicate n 0):=by simp [ol,il]
theorem fZ {α:Type} (l:List α):l.take l.length=l:=List.take_length
theorem pQ {α:Type} (l:List α) (n:Nat):l.take (l.take n).length=l.take n:=by
 rw [List.length_take,Nat.min_def]; split
 ·rfl
 rw [List.take_of_length_le (Nat.le_refl _),List.take_of_length_le (by omega)]
theorem xF {α:Type} (l:List α) (x:α):(l++[x]).take (l.length + 1)=l++[x]:=by
 rw [List.take_of_length_le (by simp)]
theorem xU {α:Type} (l r:List α):(l++r).take (l.length + r.length)=l++r:=by
 rw [List.take_of_length_le (by simp)]
theorem pR {α:Type} (l:List α) (n:Nat):(l.drop n).take (l.length - n)=l.drop n:=List.take_of_length_le (by simp)
theorem oc (m n:Nat):Int.tmod (m:Int) (n:Int)=((m % n:Nat):Int):=rfl
theorem rA (m n:Nat):Int.tdiv (m:Int) (n:Int)=((m / n:Nat):Int):=rfl
theorem BC (a:Nat):((a:Int) - 1).toNat=a - 1:=by omega
theorem B2 (a:Nat):((a:Int) + 1).toNat=a + 1:=by omega
theorem FX (a b:Nat):((a:Int) - (b:Int)).toNat=a - b:=by omega
structure Fj (C:Ctx) (m:Map) (H:aw) (w:World) (av:AV) (v:Value):Prop where
 inj:∀ (k k' : Nat) (c c' : List AV) l l',H[k]? = some (aM.own c)→H[k']? = some (aM.own c')→m k=some l→m k' = some l'→l.g=l'.g→k=k'
 blk:∀ (k:Nat) (c:List AV),H[k]? = some (aM.own c)→lT C.B (Reads (OK C m H w) w) m H w k c
 fro:∀ (k:Nat) (c:List PV),H[k]? = some (aM.fro c)→mo (OK C m H w) w m k c
 val:aG (Reads (OK C m H w) w) m H av v
def D0 (P:Program) (f:FuncId) (args:List PV) (av:AV) (H:aw):Prop:=
 Ip P f∧∀ (okA:Nat→Prop) (w:World) (vals:Array Value),pj okA w→vals.size=args.length→(∀ i (h:i < args.length),Reads okA w args[i] (vals.getD i undef)) →
  Calls P f vals w fun e w'=>∃ v m',e = .returned v∧Below w.heap.size w w'∧Fj (fresh okA w) m' H w' av v
def oe (T:TypeId→Option TI) (rs:List ResultVar) (av:AV) (H:aw) (s:St):Prop:=
 match mc T s rs with
 | some (p,l)=>p∧∃ π,iW l=bg π av∧bb π.length av=true∧Le π ⟨s.n,[],H⟩ s
 | none=>False
def oS (T:TypeId→Option TI) (rs:List ResultVar) (av:AV) (H:aw):Exit→St→Prop
 | .normal,s=>oe T rs av H s
 | .ret,s=>oe T rs av H s
 | _,_=>False
theorem ya {P:Program} {f:FuncId} {fn:Func} {args:List PV} {okA:Nat→Prop} {w:World} {vals:Array Value} (_hf:P.funcs[f]? = some fn) (hn:args.length≤fn.ntmps) (hok:pj okA w) (hsz:vals.size=args.length) (hrd:∀ i (h:i < args.length),Reads okA w args[i] (vals.getD i undef)) :
  Rel (fresh okA w) (fun _=>none) (entry fn.ntmps args) (vals++Array.replicate (fn.ntmps - vals.size) undef) w:=by
 have hslot:∀ t,(vals++Array.replicate (fn.ntmps - vals.size) undef).getD t undef=if t < vals.size then vals.getD t undef else undef:=by
  intro t
  simp only [Array.getD_eq_getD_getElem?]
  by_cases ht:t < vals.size
  ·rw [if_pos ht,Array.getElem?_append_left ht]
  rw [if_neg ht,Array.getElem?_append_right (by omega),Array.getElem?_replicate]
  split<;>rfl
 have hOK:∀ b,okA b→OK (fresh okA w) (fun _=>none) [] w b:=fun b hb=>⟨.inl hb,hok.1 b hb,fun k c l h=>by simp at h⟩
 refine ⟨fun g l hg=>(hok.2 g l hg).mono hOK,bV.refl _ _,fun _ h=>h,by simp [entry]; omega,fun k k' c c' l l' h=>by simp [entry] at h,fun k c h=>by simp [entry] at h,fun k c h=>by simp [entry] at h,fun t=>?_,fun k kk d v h=>by simp [entry] at h,fun k k' kk d v kk' d' v' l l' h=>by simp [entry] at h,fun k i j h=>by simp [entry] at h,fun k r h=>by simp [entry] at h,fun k k' r r' l l' h=>by simp [entry] at h⟩
 rw [hslot]
 unfold St.get entry
 simp only
 rw [uZ]
 simp only [Nat.zero_le,if_true,Nat.sub_zero]
 by_cases ht:t < args.length
 ·rw [List.getElem?_eq_getElem ht,if_pos (by omega)]
  exact .p _ _ ((hrd t ht).mono hOK)
 rw [List.getElem?_eq_none (by omega)]
 exact .dead _
theorem vj (hT:∀ t ti,T t=some ti→bp P t=some ti) {f:FuncId} {fn:Func} {c:Code} {args:List PV} {av:AV} {H:aw} (hf:P.funcs[f]? = some fn) (hb:fn.body=some c) (hnm:(fn.name == "runtime.NumGoroutine")=false) (hn:args.length≤fn.ntmps)
  (h:Holds P c (oS T fn.results.toList av H) (entry fn.ntmps args)):D0 P f args av H:=by
 refine ⟨⟨fn,hf,hnm,by rw [hb]; rfl⟩,fun okA w vals hok hsz hrd=>calls_of_wp hf hb (pt.1 ?_)⟩
 have R:=ya hf hn hok hsz hrd
 refine gJ (h none [] _ _ { tmps:=vals++Array.replicate (fn.ntmps - vals.size) undef,defers:=[] } w R rfl) fun e a' w' ⟨s',m',h1,h2,h3⟩=>?_
 have fini:oe T fn.results.toList av H s'→a'.defers=[]∧∃ v,(results fn a'.tmps).run P w' = .ok v w'∧∃ v_1 m'',Ending.returned v = .returned v_1∧Below w.heap.size w w'∧Fj (fresh okA w) m'' H w' av v_1:=by
  intro he
  unfold oe at he
  split at he
  ·rename_i p l hl
   obtain ⟨hp,π,hav,eA,hle⟩:=he
   obtain ⟨vs,e1,e2,e3⟩:=kN hT h2 fn.results.toList hl hp
   have hv:=lP (w:=w') e2 e3
   have R':=h2.weaken hle
   rw [hav] at hv
   have hlen:H.length=π.length:=(hle.2.2.1.get).1.symm
   have ho:∀ b,OK (fresh okA w) m' s'.H w' b→OK (fresh okA w) (cJ m' π) H w' b:=by
    refine fun b hb=>⟨hb.1,hb.2.1,fun k c l hk hl=>?_⟩
    obtain ⟨k',a,b'⟩:=(hle.2.2.1.get).2 k _ hk
    simp only [cJ,a,Option.bind_some] at hl
    unfold jN at b'
    simp only at b'
    split at b'
    ·rename_i d hd
     exact hb.2.2 k' _ l (bh hd) hl
    exact b'.elim
   refine ⟨h3,_,?_,_,_,rfl,h2.below.below (fun _ h=>h),R'.inj,R'.blk,R'.fro,hv.sT (fun p v h=>h.mono ho) hlen eA⟩
   rw [kv,Array.mapM_eq_mapM_toList]
   simp only [Sem.run_bind,Sem.run_map]
   rw [e1]
   simp only [Result.andThen_ok]
   rfl
  exact he.elim
 cases e with
 | normal=>exact fini h1
 | ret=>exact fini h1
 | _=>exact h1.elim
def jU (n len:Nat):List Nat:=List.range' n len
def aM.bg (π:List Nat):aM→aM
 | .own c=>.own (c.map (Go.Pv.bg π))
 | b=>b
theorem jE {n len k:Nat} (h:k < len):(jU n len).getD k 0=n + k:=by
 simp [jU,List.getD,h]
theorem aG.shift {rd rd' : PV→Value→Prop} {m m2:Map} {H H2:aw} {n:Nat} (h1:∀ p v,rd p v→rd' p v) (h2:n + H.length≤H2.length) (hm:∀ k,k < H.length→m2 (n + k)=m k) {x:AV} {v:Value} (h:aG rd m H x v)
  (hx:bb H.length x=true):aG rd' m2 H2 (Go.Pv.bg (jU n H.length) x) v:=by
 have one:∀ {x:AV} {v:Value},aG rd m H x v→bq H.length x=true→aG rd' m2 H2 (bu (jU n H.length) x) v:=by
  intro x v h hs
  cases h with
  | dead v=>exact .dead v
  | p pv v h=>exact .p pv v (h1 _ _ h)
  | sl k lo len v hk h =>
   simp only [bu,jE hk]
   refine .sl _ lo len v (by omega) ?_
   unfold Ch at *
   rw [hm k hk]; exact h
  | ptr k i v hk h =>
   simp only [bu,jE hk]
   refine .ptr _ i v (by omega) ?_
   unfold w9 at *
   rw [hm k hk]; exact h
  | agg l vs hl hr=>simp [bq] at hs
  | tup l vs hl hr=>simp [bq] at hs
  | cl f l vs hl hr=>simp [bq] at hs
  | lH r=>exact .lH r
  | sls k lo len sz v hk h =>
   simp only [bu,jE hk]
   refine .sls _ lo len sz v (by omega) ?_
   unfold wx at *
   rw [hm k hk]; exact h
  | mptr k v hk h =>
   simp only [bu,jE hk]
   refine .mptr _ v (by omega) ?_
   unfold rH at *
   rw [hm k hk]; exact h
  | yv k l vs v hk h hl hr=>simp [bq] at hs
 cases x with
 | agg l =>
  cases h with
  | agg _ vs hl hr =>
   refine .agg _ vs (by simpa using hl) fun c hc=>?_
   rw [List.length_map] at hc
   rw [List.getElem_map]
   exact one (hr c hc) ((List.all_eq_true.1 hx) _ (List.getElem_mem hc))
 | tup l =>
  cases h with
  | tup _ vs hl hr =>
   refine .tup _ vs (by simpa using hl) fun c hc=>?_
   rw [List.length_map] at hc
   rw [List.getElem_map]
   exact one (hr c hc) ((List.all_eq_true.1 hx) _ (List.getElem_mem hc))
 | cl f l =>
  cases h with
  | cl _ _ vs hl hr =>
   refine .cl _ _ vs (by simpa using hl) fun c hc=>?_
   rw [List.length_map] at hc
   rw [List.getElem_map]
   exact one (hr c hc) ((List.all_eq_true.1 hx) _ (List.getElem_mem hc))
 | yv k l vs =>
  simp only [bb,Bool.and_eq_true,decide_eq_true_eq] at hx
  cases h with
  | yv _ _ _ _ hk h hl hr =>
   simp only [Go.Pv.bg,jE hk]
   refine .yv _ _ vs v (by omega) ?_ (by simpa using hl) fun c hc=>?_
   ·unfold C9 at *
    rw [hm k hk]; exact h
   rw [List.length_map] at hc
   rw [List.getElem_map]
   exact one (hr c hc) ((List.all_eq_true.1 hx.2) _ (List.getElem_mem hc))
 | dead=>exact .dead v
 | p pv=>exact one h hx
 | sl k lo len=>exact one h hx
 | ptr k i=>exact one h hx
 | mptr k=>exact one h hx
 | lH r=>exact one h hx
 | sls k lo len sz=>exact one h hx
def Ec (av:AV) (H:aw):Bool:=
 bb H.length av && H.all fun | .own c=>c.all (bb H.length) | .mp _ _ _=>false | .dt _ _=>false | .lp _=>false | _=>true
theorem Rel.join {okA:Nat→Prop} (R:Rel C m s tmps w) {w' : World} {m' : Map} {av:AV} {H:aw} {v:Value} (hA:∀ b,okA b→OK C m s.H w b) (hbl:Below w.heap.size w w') (ho:Fj (fresh okA w) m' H w' av v) (eA:Ec av H=true) :
  ∃ m2,Rel C m2 { s with H:=s.H++H.map (aM.bg (jU s.H.length H.length)) } tmps w' ∧
   aG (Reads (OK C m2 (s.H++H.map (aM.bg (jU s.H.length H.length))) w') w') m2 (s.H++H.map (aM.bg (jU s.H.length H.length))) (Go.Pv.bg (jU s.H.length H.length) av) v:=by
 obtain ⟨hsa,hsb⟩:=Bool.and_eq_true _ _ ▸ eA
 let H2:=s.H++H.map (aM.bg (jU s.H.length H.length))
 let m2:Map:=fun k=>if k < s.H.length then m k else m' (k - s.H.length)
 have hmo:∀ k,k < s.H.length→m2 k=m k:=fun k h=>by simp [m2,h]
 have hmn:∀ k,m2 (s.H.length + k)=m' k:=fun k=>by
  show (if _ then _ else _)=_
  rw [if_neg (by omega),Nat.add_sub_cancel_left]
 have hlt:∀ (k:Nat) (c' : List AV) l,s.H[k]? = some (aM.own c')→m k=some l→l.g < w.heap.size:=by
  intro k c' l h hl
  rcases R.blk k c' h with ⟨_,hn⟩ | ⟨l',cur',e',hl',hB,hg',_⟩
  ·rw [hl] at hn; cases hn
  rw [hl] at hl'; cases hl'
  exact (Array.getElem?_eq_some_iff.1 hg').1
 have hge:∀ (k:Nat) (c' : List AV) l,H[k]? = some (aM.own c')→m' k=some l→w.heap.size≤l.g:=by
  intro k c' l h hl
  rcases ho.blk k c' h with ⟨_,hn⟩ | ⟨l',cur',e',hl',hB,hg',_⟩
  ·rw [hl] at hn; cases hn
  rw [hl] at hl'; cases hl'
  exact hB
 have aq:∀ (k:Nat) (b:aM),H2[k]? = some b→(k < s.H.length∧s.H[k]? = some b)∨∃ j b',k=s.H.length + j∧H[j]? = some b'∧b=b'.bg (jU s.H.length H.length):=by
  intro k b h
  by_cases hk:k < s.H.length
  ·exact .inl ⟨hk,by rwa [List.getElem?_append_left hk] at h⟩
  rw [List.getElem?_append_right (by omega),List.getElem?_map] at h
  cases e:H[k - s.H.length]? with
  | none=>rw [e] at h; cases h
  | some b'=>rw [e] at h; exact .inr ⟨k - s.H.length,b',by omega,e,(Option.some.inj h).symm⟩
 have hown:∀ (k:Nat) (c:List AV),H2[k]? = some (.own c)→(k < s.H.length∧s.H[k]? = some (.own c))∨∃ j c',k=s.H.length + j∧H[j]? = some (.own c')∧c=c'.map (Go.Pv.bg (jU s.H.length H.length)):=by
  intro k c h
  rcases aq k _ h with h | ⟨j,b',rfl,h,e⟩
  ·exact .inl h
  cases b' with
  | own c'=>simp only [aM.bg,aM.own.injEq] at e; exact .inr ⟨j,c',rfl,h,e⟩
  | _=>cases e
 have hok:∀ b,OK C m s.H w b→∀ k c l,H2[k]? = some (.own c)→m2 k=some l→l.g ≠ b:=by
  intro b hb k c l h hl
  rcases hown k c h with ⟨hk,h⟩ | ⟨j,c',rfl,h,_⟩
  ·rw [hmo k hk] at hl; exact hb.2.2 k c l h hl
  rw [hmn] at hl
  have:=hge j c' l h hl
  have:=hb.2.1
  omega
 have hOK:∀ b,OK (fresh okA w) m' H w' b→OK C m2 H2 w' b:=by
  intro b hb
  refine ⟨?_,hb.2.1,fun k c l h hl=>?_⟩
  ·rcases hb.1 with h | h
   ·exact (hA b h).1
   exact .inr (R.base _ h)
  rcases hown k c h with ⟨hk,h⟩ | ⟨j,c',rfl,h,_⟩
  ·rw [hmo k hk] at hl
   rcases hb.1 with h' | h'
   ·exact (hA b h').2.2 k c l h hl
   have:=hlt k c l h hl
   have h' : w.heap.size≤b:=h'
   omega
  rw [hmn] at hl; exact hb.2.2 j c' l h hl
 have hh:∀ b,b < w.heap.size→w'.heap[b]? = w.heap[b]?:=fun b h=>hbl.block b h
 have ho1:∀ b,OK C m s.H w b→OK C m2 H2 w' b:=fun b h=>⟨h.1,Nat.lt_of_lt_of_le h.2.1 hbl.size,hok b h⟩
 have hlen2:s.H.length + H.length≤H2.length:=by simp [H2]
 have hmpH:∀ (k:Nat) (b:aM),b.DC=true→H2[k]? = some b→s.H[k]? = some b:=by
  intro k b hs h
  rcases aq k _ h with h | ⟨j,b',rfl,h2,e⟩
  ·exact h.2
  subst e
  cases b' with
  | mp _ _ _ =>
   have:=(List.all_eq_true.1 hsb) _ (List.mem_of_getElem? h2)
   simp at this
  | dt _ _ =>
   have:=(List.all_eq_true.1 hsb) _ (List.mem_of_getElem? h2)
   simp at this
  | lp _ =>
   have:=(List.all_eq_true.1 hsb) _ (List.mem_of_getElem? h2)
   simp at this
  | _=>cases hs
 refine ⟨m2,R.heap (hbl.HH R.base) (by simp) hmo hok (fun b h=>hh b h.2.1) ?_ ?_ ?_ hmpH,?_⟩
 ·intro k k' c c' l l' h1 h2 h3 h4 h5
  rcases hown k c h1 with ⟨hk,h1⟩ | ⟨j,d,rfl,h1,_⟩<;>rcases hown k' c' h2 with ⟨hk',h2⟩ | ⟨j',d',rfl,h2,_⟩
  ·rw [hmo k hk] at h3; rw [hmo k' hk'] at h4
   exact R.inj k k' c c' l l' h1 h2 h3 h4 h5
  ·rw [hmo k hk] at h3; rw [hmn] at h4
   have:=hlt k c l h1 h3
   have:=hge j' d' l' h2 h4
   omega
  ·rw [hmn] at h3; rw [hmo k' hk'] at h4
   have:=hlt k' c' l' h2 h4
   have:=hge j d l h1 h3
   omega
  rw [hmn] at h3 h4
  rw [ho.inj j j' d d' l l' h1 h2 h3 h4 h5]
 ·intro k c h
  rcases hown k c h with ⟨hk,h⟩ | ⟨j,c',rfl,hj,rfl⟩
  ·refine (R.blk k c h).ext (fun p v h=>h.ext ho1 fun b hb=>hh b hb.2.1) (by simp) hmo (hmo k hk) fun l hl=>?_
   exact hh _ (hlt k c l h hl)
  rcases ho.blk j c' hj with ⟨e,hn⟩ | ⟨l,cur,e,h1,h2,h3,h4,h5,h6,h7⟩
  ·exact .inl ⟨by rw [e]; rfl,by rw [hmn]; exact hn⟩
  refine .inr ⟨l,cur,e,by rw [hmn]; exact h1,R.base _ h2,h3,h4,h5,by simpa using h6,fun i hi=>?_⟩
  rw [List.length_map] at hi
  rw [List.getElem_map]
  have hs:bb H.length c'[i]=true:=by
   have:=(List.all_eq_true.1 hsb) _ (List.mem_of_getElem? hj)
   exact (List.all_eq_true.1 this) _ (List.getElem_mem hi)
  exact (h7 i hi).shift (fun p v h=>h.mono hOK) hlen2 (fun k _=>hmn k) hs
 ·intro k c h
  rcases aq k _ h with ⟨hk,h⟩ | ⟨j,b',rfl,h,e⟩
  ·exact (R.fro k c h).ext ho1 (fun b hb=>hh b hb.2.1) (hmo k hk)
  cases b' with
  | fro c' =>
   simp only [aM.bg,aM.fro.injEq] at e
   subst e
   rcases ho.fro j c h with ⟨e1,e2⟩ | ⟨l,vs,e1,e2,e3,e4⟩
   ·exact .inl ⟨e1,by rw [hmn]; exact e2⟩
   exact .inr ⟨l,vs,by rw [hmn]; exact e1,hOK _ e2,e3,fun i hi=>⟨(e4 i hi).1,(e4 i hi).2.mono hOK⟩⟩
  | _=>cases e
 exact ho.val.shift (fun p v h=>h.mono hOK) hlen2 (fun k _=>hmn k) hsa
theorem vB {o:Oper} {fo:Operand} {args:Array Operand} {ts:Array TypeId} (ho:o.op = .call { callee:=.value fo,args:=args,argTypes:=ts }) {g:FuncId} {avs:List PV} {p:Prop} {av:AV} {H:aw}
  (hc:D0 P g avs av H) (hcall:gk s fo args=some (g,avs,p,true)) (hp:p) (eA:Ec av H=true):eZ P o s (Go.Pv.bg (jU s.H.length H.length) av) (s.H++H.map (aM.bg (jU s.H.length H.length))):=by
 intro C m a w K Q R hK
 unfold gk at hcall
 split at hcall
 ·rename_i g' cap hf
  split at hcall<;>simp only [Option.some.injEq,Prod.mk.injEq,reduceCtorEq] at hcall
  rename_i p' pvs b' hpl
  obtain ⟨rfl,rfl,rfl,rfl⟩:=hcall
  have hfv:=R.ev fo
  rw [hf] at hfv
  generalize hfe:a.eval fo=fv at hfv
  have hfv:=hfv.aP
  cases hfv with
  | fn _ _ vs hcl hcr =>
   obtain ⟨⟨fn,hfn,hnm,hbd⟩,hcalls⟩:=hc
   obtain ⟨e1,e2,e3⟩:=dz (C:=C) (m:=m) (w:=w) (H:=s.H) (fun {x v p pv b} (hx:aG (Reads (OK C m s.H w) w) m s.H x v) h hp=>fL R hx h hp) (args.toList.map s.ev) (fun c=>(args.toList.map a.eval).getD c undef) (fun c hc=>by
    simp only [List.length_map] at hc
    have:=R.ev (args.toList[c])
    simpa [List.getD,List.getElem?_map,List.getElem?_eq_getElem hc] using this) hpl hp
   simp only [List.length_map] at e1
   have hvals:∀ i (h:i < (pvs++cap).length),(args.map a.eval++vs).getD i undef=if i < pvs.length then (args.toList.map a.eval).getD i undef else vs.getD (i - pvs.length) undef:=by
    intro i hi
    simp only [Array.getD_eq_getD_getElem?]
    by_cases hip:i < pvs.length
    ·rw [if_pos hip,Array.getElem?_append_left (by simp at e1 ⊢; omega)]
     simp [List.getD]
    rw [if_neg hip,Array.getElem?_append_right (by simp at e1 ⊢; omega)]
    congr 2
    simp at e1 ⊢; omega
   have hrun:(execOp a.eval o).run P w = .ok (.enter g' (args.map a.eval++vs)) w:=by
    have hnm' : ¬ fn.name = "runtime.NumGoroutine":=by simpa using hnm
    have hbd' : ¬ fn.body=none:=by intro e; rw [e] at hbd; simp at hbd
    simp [execOp,ho,resolve,hfe,Deferred.ofValue,invoke,callFunc,hfn,hnm',hbd']
   refine eF (by first|rfl|(rw [ho]; rfl)) ?_
   unfold Oper.wp
   rw [hrun]
   simp only [Oper.upon]
   have hsz:(args.map a.eval++vs).size=(pvs++cap).length:=by simp at e1 ⊢; omega
   refine (hcalls (OK C m s.H w) w _ R.yK hsz (fun i hi=>?_)).mono fun e w' ⟨v,m',he,hbl,hv⟩=>?_
   ·rw [hvals i hi]
    by_cases hip:i < pvs.length
    ·rw [if_pos hip,List.getElem_append_left hip]; exact e3 rfl i hip
    rw [if_neg hip,List.getElem_append_right (by omega)]; exact hcr _ (by simp at hi; omega)
   subst he
   obtain ⟨m2,R2,hv2⟩:=R.join (fun b h=>h) hbl hv eA
   exact hK v m2 w' R2 hv2
 cases hcall
theorem kC {all:Array Oper} {rest:List Oper} {K:St→Prop} {dst:Option Tmp} {ty:TypeId} {pos:String} {aft:Array Edge} {gd:Option (Nat × Bool)} {fo:Operand} {args:Array Operand} {ts:Array TypeId} {g:FuncId} {avs:List PV} {p:Prop} {av:AV} {H:aw}
  (hc:D0 P g avs av H) (hg:bt all s { dst:=dst,op:=.call { callee:=.value fo,args:=args,argTypes:=ts },type:=ty,pos:=pos,after:=aft,guard:=gd } = some true)
  (hcall:gk s fo args=some (g,avs,p,true)) (eA:Ec av H=true) (hd:au s dst) (hp:p) (h:gY P false all rest K (({ s with H:=s.H++H.map (aM.bg (jU s.H.length H.length)) } : St).put dst (Go.Pv.bg (jU s.H.length H.length) av))) :
  gY P false all ({ dst:=dst,op:=.call { callee:=.value fo,args:=args,argTypes:=ts },type:=ty,pos:=pos,after:=aft,guard:=gd } :: rest) K s:=by
 obtain ⟨s',hr,hK⟩:=h
 exact ⟨s',.cons (.op s _ _ hg (cM hd) (vB rfl hc hcall hp eA) fun h=>by cases h) hr,hK⟩
end
open Go.RowKit
section
variable {P:Program} {T:TypeId→Option TI} {s:St}
theorem eM {all:Array Oper} {rest:List Oper} {K:St→Prop} {o:Oper} {av:AV} {H' : aw} (h1:eZ P o s av H') (hg:bt all s o=some true) (hd:au s o.dst)
  (h:gY P false all rest K (({ s with H:=H' } : St).put o.dst av)):gY P false all (o :: rest) K s:=by
 obtain ⟨s',hr,hK⟩:=h
 exact ⟨s',.cons (.op s _ _ hg (cM hd) h1 fun h=>by cases h) hr,hK⟩
theorem cu {c:Code} {Q:Exit→St→Prop} (t:Nat) (hs:s.get t = .p .nil) (h:Holds P c Q { s with sl:=(t,.sl s.H.length 0 0) :: s.sl,H:=s.H++[.own []] }):Holds P c Q s:=by
 intro r ds C m a w R hd
 have hv:=R.slot t
 rw [hs] at hv
 have hv:=hv.aP.eO
 have R':=R.sk
 refine h r ds C _ a w ⟨R'.laid,R'.below,R'.base,R'.size,R'.inj,R'.blk,R'.fro,fun t'=>?_,R'.mp⟩ hd
 by_cases e:t=t'
 ·subst e
  have e2:({ s with sl:=(t,.sl s.H.length 0 0) :: s.sl,H:=s.H++[.own []] } : St).get t = .sl s.H.length 0 0:=by simp [St.get,lk]
  rw [e2,hv]
  exact .sl _ _ _ _ (by simp) <| .inl ⟨rfl,none,rfl⟩
 have e2:({ s with sl:=(t,.sl s.H.length 0 0) :: s.sl,H:=s.H++[.own []] } : St).get t' = s.get t':=by simp [St.get,lk,show (t == t')=false by simpa using e]
 rw [e2]
 exact R'.slot t'
inductive Sub:PV→PV→Prop
 | same (a:PV):Sub a a
 | nn (l:List PV):Sub (.nn l) (.list l)
 | nil:Sub .nil (.list [])
 | nz:Sub .nz (.list [])
theorem Sub.reads {a b:PV} (h:Sub a b) {ok:Nat→Prop} {w:World} {v:Value} (hv:Reads ok w a v):Reads ok w b v:=by
 cases h with
 | same=>exact hv
 | nn l=>exact hv.wm
 | nil=>exact hv.sO
 | nz =>
  cases hv with
  | nz a cap=>exact .list0 _ _ fun h=>by cases h
def uc:List PV→List PV→Prop
 | [],[]=>True
 | a :: r,b :: s=>Sub a b∧uc r s
 | _,_=>False
theorem uc.len:∀ {l r:List PV},uc l r→l.length=r.length
 | [],[],_=>rfl
 | a :: l,b :: r,h=>by simp [uc.len h.2]
 | [],_ :: _,h=>h.elim
 | _ :: _,[],h=>h.elim
theorem uc.get:∀ {l r:List PV},uc l r→∀ (i:Nat) (h:i < l.length) (h' : i < r.length),Sub l[i] r[i]
 | a :: l,b :: r,h,0,_,_=>h.1
 | a :: l,b :: r,h,i + 1,h1,h2=>by simpa using uc.get h.2 i (by simpa using h1) (by simpa using h2)
 | [],[],_,i,h,_=>by simp at h
 | [],_ :: _,h,_,_,_=>h.elim
 | _ :: _,[],h,_,_,_=>h.elim
theorem bL.sub {f:FuncId} {args args' : List PV} {r:PV} (h:bL P f args r) (hs:uc args' args):bL P f args' r:=by
 refine ⟨h.1,fun okA w vals h1 h2 h3=>h.2 okA w vals h1 (h2.trans hs.len) fun i hi=>?_⟩
 have:=hs.len
 exact (hs.get i (by omega) hi).reads (h3 i (by omega))
theorem n4 {c:Code} {Q:Exit→St→Prop} (t k:Nat) {w:List Int} (h1:s.get t = .sl k 0 w.length) (h2:aq s.H k = .own (ol w)) (h:Holds P c Q { s with sl:=(t,.p (.list (il w))) :: s.sl,H:=aE s.H k (.fro (il w)) }):Holds P c Q s:=by
 refine bX k h2 (jF w) (nH (s:={ s with H:=aE s.H k (.fro (il w)) }) t (p:=0 + w.length≤(il w).length∧(((il w).drop 0).take w.length).all PV.one=true) (pv:=.list (((il w).drop 0).take w.length)) ?_ ?_ ?_)
 ·have e:({ s with H:=aE s.H k (.fro (il w)) } : St).get t = .sl k 0 w.length:=h1
  rw [e]
  have hk:=bh h2
  have hkl:k < s.H.length:=(List.getElem?_eq_some_iff.1 hk).1
  have e2:aq (aE s.H k (.fro (il w))) k = .fro (il w):=by
   have key:∀ (H:aw) (k:Nat) (b:aM),k < H.length→aq (aE H k b) k=b:=by
    intro H
    induction H with
    | nil=>intro k b h; simp at h
    | cons x r ih =>
     intro k b h
     cases k with
     | zero=>rfl
     | succ k=>exact ih k b (by simpa using h)
   exact key _ _ _ hkl
  simp only [dK,dB,e2]
 ·simp only [aI,List.drop_zero,qX,fZ,iF]
  exact ⟨by omega,trivial⟩
 simp only [List.drop_zero,qX,fZ]
 exact h
def ll (ls:List (List Int)):List PV:=ls.map fun w=>.list (il w)
theorem ay (ls:List (List Int)):(ll ls).length=ls.length:=by simp [ll]
theorem dI {ls:List (List Int)} {i:Nat} (h:i < ls.length):(ll ls).getD i default = .list (il (ls.getD i [])):=by
 simp [ll,List.getD,List.getElem?_eq_getElem h]
theorem jf (ls:List (List Int)):(ll ls).all PV.one=true:=by simp [ll,PV.one]
theorem ux (ls:List (List Int)):(ll ls).all (fun x=>x.cells.length == 1)=true:=by simp [ll,PV.cells]
end
def I0:=And.intro @F3
 <| And.intro @Cp
 <| And.intro @F1
 <| And.intro @BT
 <| And.intro @GI
 <| And.intro @EE
 <| And.intro @Ef
 <| And.intro @Em
 <| And.intro @Gr
 <| And.intro @Nat.sub_zero
 <| And.intro @Int.toNat_natCast
 <| And.intro @Int.toNat_zero
 <| And.intro @List.replicate_zero.{0}
 <| And.intro @aI
 <| And.intro @ay
 <| And.intro @jf
 <| And.intro @ux
 <| And.intro @iF
 <| And.intro @Aq
 <| And.intro @Hj
 <| And.intro @cV
 <| And.intro @DZ
 <| And.intro @pB
 <| And.intro @fV
 <| And.intro @jF
 <| And.intro @wC
 <| And.intro @r9
 <| And.intro @qD
 <| And.intro @qW
 <| And.intro @fZ
 <| And.intro @qX
 <| And.intro @Cu
 <| And.intro @pR
 <| And.intro @oc
 <| And.intro @rA
 <| And.intro @BC
 <| And.intro @B2
 <| And.intro @FX
 <| And.intro @List.headD_cons.{0}
 <| And.intro @List.map_cons.{0,0}
 <| And.intro @List.map_nil.{0,0}
 <| And.intro @List.nil_append.{0}
 <| And.intro @List.append_nil.{0}
 <| And.intro @List.cons_append.{0}
 <| And.intro @List.length_cons.{0}
 <| And.intro @List.length_nil.{0}
 <| And.intro @List.getElem?_cons_zero.{0}
 <| And.intro @List.getElem?_cons_succ.{0}
 <| And.intro @Option.map_some.{0,0}
 <| And.intro @Option.map_none.{0,0}
 <| And.intro @Option.bind_some.{0,0}
 <| And.intro @cond_true.{1}
 <| And.intro @cond_false.{1}
 <| And.intro @Nat.zero_add
 <| And.intro @Nat.add_zero
 <| And.intro @true_and
 <| And.intro @and_true
 <| And.intro @Int.zero_sub
 <| And.intro @Int.neg_zero
 <| And.intro @Int.sub_zero
 <| And.intro @and_self
 <| And.intro @List.getElem?_toArray.{0}
 <| And.intro @List.getD_cons_zero.{0}
 <| And.intro @List.getD_cons_succ.{0}
 <| And.intro @List.all_cons.{0}
 <| And.intro @List.all_nil.{0}
 <| And.intro @Bool.and_true
 <| And.intro @Bool.true_and
 <| And.intro @Bool.and_self
 <| And.intro @List.take_zero.{0}
 <| And.intro @List.drop_zero.{0}
 <| And.intro @F9
 <| And.intro @E7
 <| And.intro @Ey
 <| And.intro @FP
 <| And.intro @Bool.not_true
 <| And.intro @Bool.not_false
 <| And.intro @Bool.false_eq_true
 <| And.intro @Bool.true_eq_false
 <| And.intro @Option.some.injEq.{0}
 <| And.intro @eq_self.{1}
 <| And.intro @ne_eq.{1}
 <| And.intro @not_false_eq_true
 <| And.intro @Nat.one_ne_zero
 <| And.intro @List.take_succ_cons.{0}
 <| And.intro @List.take_nil.{0}
 <| And.intro @List.drop_succ_cons.{0}
 <| And.intro @List.drop_nil.{0}
 <| And.intro @List.set_cons_zero.{0}
 <| And.intro @List.set_cons_succ.{0}
 <| @List.set_nil.{0}
open Go.RowKit Go.ChangeShapes Go.WideShapes
section
variable {H:Type} {enc:TypeId × Value→H} {P:Program}
theorem p6 (hl:laidOutB P=true) {W W' : World} {sp:Nat→Bool} (hb:Below W.heap.size W W'):∀ {ts:List TypeId} {vs:List Value} {ds:List (DataW H)} {ps:List MemPlace},(ts.all fun t=>P.readableRec t && decide (t < P.types.size))=true →
  DataW.TrodAll enc P W 0 (fun _=>true) true ts vs ds ps→(∀ x∈ps,x.block < W.heap.size)→(∀ x∈ps,sp x.block=true)→DataW.TrodAll enc P W' 0 sp true ts vs ds ps
 | [],vs,ds,ps,_,h,_,_=>by
  obtain ⟨rfl,rfl,rfl⟩:=trodAll_nil h
  exact trodAll_mk0
 | t :: ts,vs,ds,ps,ht,h,hlt,hs=>by
  obtain ⟨v,vs',d,ds',p,q,rfl,rfl,rfl,h0,h1⟩:=trodAll_cons h
  simp only [List.all_cons,Bool.and_eq_true,decide_eq_true_eq] at ht
  refine trodAll_cons_mk (WideElems.Trod_stays hl ht.1.1 ht.1.2 h0 (fun x hx=>hb.same (hlt x (by simp [hx]))) fun x hx=>hs x (by simp [hx])) (p6 hl hb ht.2 h1 (fun x hx=>hlt x (by simp [hx])) fun x hx=>hs x (by simp [hx]))
theorem Ay (hl:laidOutB P=true) {f:Func} {s:ChangeSpec} {W W' : World} {args:Array Value} {ds gs:List (DataW H)} {before:List MemPlace} {tb:TypeId} (hvars:s.vars=[]) (hr:f.resultTypes = #[tb]) (hb:P.underlying tb=some .bool)
  (hts:(f.params.toList.all fun t=>P.readableRec t && decide (t < P.types.size))=true) (hW:DataW.Whole enc P f.params.toList s.vars false W args.toList ds gs before)
  (hfn:ds.length=f.params.toList.length→s.fn H (ds++[]) = { results:=[.lit (.bool true)],args:=ds }) (hbl:Below W.heap.size W W'):s.post enc P f false true false false W args (.bool true) W':=by
 have hW':=hW
 obtain ⟨p,q,hA,hV,rfl,hfz,hnd⟩:=hW
 rw [hvars] at hV
 obtain ⟨rfl,rfl⟩:=trodVars_none hV
 have hlen:ds.length=f.params.toList.length:=(trodAll_length hA).2
 have hf:=hfn hlen
 have hlt:∀ x∈p,x.block < W.heap.size:=fun x hx=>by simpa using hW'.lt x (by simp [hx])
 have hold:∀ x∈p++[],(fun b=>decide (b < W.heap.size)) x.block=true:=fun x hx=>by simpa using hW'.lt x hx
 have hres:∀ (b:Nat) (sp:Nat→Bool) (hd:Bool),DataW.TrodAll enc P W' b sp hd f.resultTypes.toList ((Value.bool true).resultList f.resultTypes.size) (s.fn H (ds++[])).results []:=by
  intro b sp hd
  rw [hf,hr]
  exact trodAll_mk1 (shut_bool hb _)
 have hargs:∀ sp:Nat→Bool,(∀ x∈p++[],sp x.block=true)→DataW.TrodAll enc P W' 0 sp true f.params.toList args.toList (s.fn H (ds++[])).args p:=by
  intro sp hsp
  rw [hf]
  exact p6 hl hbl hts hA hlt fun x hx=>hsp x (by simp [hx])
 have hvs:∀ sp:Nat→Bool,DataW.TrodVars enc P W' sp s.vars (s.fn H (ds++[])).vars []:=by
  intro sp
  rw [hvars,hf]; rfl
 refine ⟨ds,[],p++[],[],p,[],hW',hres _ _ _,hargs _ hold,hvs _,World.keptBut_mono (fun x hx=>⟨hx,?_⟩) (hbl.frame (·∈p++[])),fun _=>?_⟩
 ·exact Or.inr (by simpa using hx)
 refine ⟨ok_one hr rfl (okWide_bool_mk hb _),_,_,([]++p)++[],⟨[]++p,[],trodAll_append (hargs _ (fun _ _=>rfl)) (hres _ _ _),hvs _,rfl,?_,?_⟩,?_⟩
 ·intro b off hp
  rw [hbl.frozen (p:=⟨b,off,none⟩) (hlt (.cell b off) (by simpa using hp))]
  exact hfz b off (by simpa using hp)
 ·intro ha
  have:=hnd ha
  simpa using this
 intro x hx _
 simpa using hx
end
open Go.RowKit Go.ChangeShapes Go.WideShapes
def gp (n:Int) (m:List Int):PV:=.agg [.int .i64 n,.list (il m)]
section
variable {H:Type} {enc:TypeId × Value→H} {P:Program}
theorem u6 {t e:TypeId} {W:World} {fuel:Nat} {cs:List Value} {x:DataW H × List MemPlace} (ht:P.underlying t=some (.slice e)) (he:P.underlying e=some (.int .i64)) (hc:P.cellsOf e=1)
  (hby:P.bytesOf e=8) (hf:DataW.trod enc P W 0 (fun _=>true) true fuel t cs=some x) (hw:(x.1.weights P t).all (·≤reachBytes)=true) :
  ∃ (xs:List Int) (v:Value),cs=[v]∧(∀ x∈xs,ah x)∧xs.length≤17592186043904∧Reads (fun b=>b < W.heap.size) W (.list (il xs)) v:=by
 rcases open_ints ht he hc hf with ⟨rfl,rfl⟩ | ⟨a,len0,cap0,zs,rfl,_,hle,hmax,hall,rfl,hcell,hwf⟩
 ·exact ⟨[],_,rfl,fun x hx=>by simp at hx,Nat.zero_le _,.list0 none 0 fun _=>rfl⟩
 simp only [DataW.weights,ht,hby,List.all_cons,Bool.and_eq_true,decide_eq_true_eq] at hw
 have hbig:(zs.take len0).length * 8≤reachBytes:=by
  have e1:∀ l:List Int,(lits (H:=H) .i64 l).length=l.length:=fun l=>by simp [lits]
  have:=hw.1
  rw [e1,e1] at this
  omega
 unfold reachBytes at hbig
 simp only [if_true] at hall
 have hlen:(zs.take len0).length=len0:=by simp; omega
 refine ⟨zs.take len0,_,rfl,fun x hx=>?_,by omega,?_⟩
 ·have:=hwf x (List.mem_of_mem_take hx)
  simp [Lit.wf,IntKind.min,IntKind.max,IntKind.signed,IntKind.bits] at this
  exact ⟨by omega,by omega⟩
 by_cases h0:len0=0
 ·subst h0
  exact .list0 _ _ fun h=>by cases h
 obtain ⟨b,off,rfl,hcell'⟩:=ints_at (w:=W) hcell (by omega)
 have hone:∀ x∈il (zs.take len0),x.cells.length=1:=by
  intro x hx
  obtain ⟨y,_,rfl⟩:=List.mem_map.1 hx
  rfl
 have hfl:flat (il (zs.take len0))=il (zs.take len0):=iA (iF _)
 have:=Reads.list (ok:=fun b=>b < W.heap.size) (w:=W) (il (zs.take len0)) b off cap0 1 (fun j=>.int .i64 (zs.getD j 0)) ?_ hone (by rw [aI,hlen]; exact hle) (fun c hcl=>?_) (fun c hcl=>?_)
 ·rwa [aI,hlen] at this
 ·have:=hcell' 0 (by omega)
  simp only [World.cell?] at this
  by_cases hb:b < W.heap.size
  ·exact hb
  rw [Array.getElem?_eq_none (by omega)] at this
  simp at this
 ·rw [hfl,aI,hlen] at hcl
  exact hcell' c (by omega)
 simp only [hfl]
 have hcl2:c < len0:=by rw [hfl,aI,hlen] at hcl; exact hcl
 have e:(il (zs.take len0))[c]'(by rw [aI,hlen]; exact hcl2) = .int .i64 (zs.getD c 0):=by
  simp [il,List.getD,List.getElem?_eq_getElem (show c < zs.length by omega)]
 rw [e]
 exact .int _ _
theorem wg {t tl ti:TypeId} {W:World} {base:Nat} {v:Value} {d:DataW H} {p:List MemPlace} {f0 f1:Field} (ht:P.underlying t=some (.struct #[f0,f1])) (hf0:f0.type=ti) (hf1:f1.type=tl) (ho0:f0.offset=0) (ho1:f1.offset=1)
  (hct:P.cellsOf t=2) (hcl:P.cellsOf tl=1) (htl:P.underlying tl=some (.slice ti)) (hti:P.underlying ti=some (.int .i64)) (hc:P.cellsOf ti=1)
  (hby:P.bytesOf ti=8) (hval:Value.okWide P W .any base t v) (h:DataW.Trod enc P W 0 (fun _=>true) true t v d p) (hw:(d.weights P t).all (·≤reachBytes)=true) :
  ∃ (n:Int) (xs:List Int),ah n∧(∀ x∈xs,ah x)∧xs.length≤17592186043904∧Reads (fun b=>b < W.heap.size) W (gp n xs) v:=by
 obtain ⟨cs,rfl,hsz⟩:=okWide_struct ht hval
 obtain ⟨fuel,hf⟩:=h
 obtain ⟨y0,y1,m,hx,hl,h0,h1⟩:=trod_struct2 ht hf
 simp only [Prod.mk.injEq] at hx
 obtain ⟨rfl,rfl⟩:=hx
 subst hf0 hf1
 simp only [DataW.weights,ht,List.map_cons,List.map_nil,DataW.weightsEach,List.append_nil,List.all_append,Bool.and_eq_true] at hw
 rw [ho0,hc,List.drop_zero] at h0
 rw [ho1,hcl] at h1
 obtain ⟨n,hcs0,_,hwf⟩:=DataW.trod_int hti h0
 obtain ⟨xs,v1,hcs1,g1,g2,g3⟩:=u6 htl hti hc hby h1 hw.2
 rw [hct] at hsz hl
 simp only [Value.cells] at hcs0 hcs1 hl
 simp [Lit.wf,IntKind.min,IntKind.max,IntKind.signed,IntKind.bits] at hwf
 have c0:cs.toList[0]? = some (.int .i64 n):=by
  have:=congrArg (fun l=>l[0]?) hcs0
  simpa using this
 have c1:cs.toList[1]? = some v1:=by
  have:=congrArg (fun l=>l[0]?) hcs1
  simpa using this
 have hc0:cs.getD 0 undef = .int .i64 n:=by
  rw [Array.getElem?_toList] at c0
  rw [Array.getD_eq_getD_getElem?,c0]; rfl
 have hc1:cs.getD 1 undef=v1:=by
  rw [Array.getElem?_toList] at c1
  rw [Array.getD_eq_getD_getElem?,c1]; rfl
 refine ⟨n,xs,⟨by omega,by omega⟩,g1,g2,.agg _ _ (by rw [hsz]; rfl) fun c hc=>?_⟩
 match c,hc with
 | 0,_=>rw [hc0]; exact .int _ _
 | 1,_=>rw [hc1]; exact g3
 | c + 2,hc=>exact absurd hc (by simp)
end
theorem I1 (a b:Int):(a == b)=decide (a=b):=rfl
theorem Ja (a b:Int):(a != b) = !decide (a=b):=rfl
theorem tx (a:Int):decide (a=a)=true:=by simp
theorem AB:(!true)=false:=rfl
theorem EB:(!false)=true:=rfl
theorem FO (b:Bool):(true && b)=b:=rfl
theorem Eu (b:Bool):(false && b)=false:=rfl
theorem Ig:(#[]:Array Operand).isEmpty=true:=rfl
def I5:=And.intro @uf.eq_1
 <| And.intro @uf.eq_2
 <| And.intro @uf.eq_3
 <| And.intro @A9.eq_1
 <| And.intro @bt.eq_1
 <| And.intro @bU.eq_1
 <| And.intro @bU.eq_2
 <| And.intro @bU.eq_3
 <| And.intro @bU.eq_4
 <| And.intro @bU.eq_5
 <| And.intro @bU.eq_6
 <| And.intro @bU.eq_7
 <| And.intro @bU.eq_8
 <| And.intro @bU.eq_9
 <| And.intro @bU.eq_10
 <| And.intro @bU.eq_11
 <| And.intro @bU.eq_12
 <| And.intro @bU.eq_13
 <| And.intro @bU.eq_14
 <| And.intro @bU.eq_15
 <| And.intro @bU.eq_16
 <| And.intro @bU.eq_17
 <| And.intro @bU.eq_18
 <| And.intro @bU.eq_19
 <| And.intro @bU.eq_20
 <| And.intro @bU.eq_21
 <| And.intro @bU.eq_22
 <| And.intro @bU.eq_23
 <| And.intro @bU.eq_24
 <| And.intro @bU.eq_25
 <| And.intro @bU.eq_26
 <| And.intro @jZ.eq_1
 <| And.intro @tw.eq_1
 <| And.intro @tw.eq_2
 <| And.intro @lq.eq_1
 <| And.intro @xS.eq_1
 <| And.intro @xS.eq_2
 <| And.intro @gZ.eq_1
 <| And.intro @fJ.eq_1
 <| And.intro @dW.eq_1
 <| And.intro @dW.eq_2
 <| And.intro @dW.eq_3
 <| And.intro @dW.eq_4
 <| And.intro @dW.eq_5
 <| And.intro @dW.eq_6
 <| And.intro @dW.eq_7
 <| And.intro @dW.eq_8
 <| And.intro @dW.eq_9
 <| And.intro @dW.eq_10
 <| And.intro @dW.eq_11
 <| And.intro @dW.eq_12
 <| And.intro @dW.eq_13
 <| And.intro @dW.eq_14
 <| And.intro @dW.eq_15
 <| And.intro @dW.eq_16
 <| And.intro @dW.eq_17
 <| And.intro @dW.eq_18
 <| And.intro @dW.eq_19
 <| And.intro @dW.eq_20
 <| And.intro @dW.eq_21
 <| And.intro @dW.eq_22
 <| And.intro @dW.eq_23
 <| And.intro @dW.eq_24
 <| And.intro @dW.eq_25
 <| And.intro @bA.eq_1
 <| And.intro @bA.eq_2
 <| And.intro @bA.eq_3
 <| And.intro @bA.eq_4
 <| And.intro @bA.eq_5
 <| And.intro @bA.eq_6
 <| And.intro @bA.eq_7
 <| And.intro @bA.eq_8
 <| And.intro @bA.eq_9
 <| And.intro @bA.eq_10
 <| And.intro @bA.eq_11
 <| And.intro @bA.eq_12
 <| And.intro @bA.eq_13
 <| And.intro @bA.eq_14
 <| And.intro @bA.eq_15
 <| And.intro @bA.eq_16
 <| And.intro @bA.eq_17
 <| And.intro @arith.eq_1
 <| And.intro @arith.eq_2
 <| And.intro @arith.eq_3
 <| And.intro @yD.eq_1
 <| And.intro @yD.eq_2
 <| And.intro @yD.eq_3
 <| And.intro @yD.eq_4
 <| And.intro @yD.eq_5
 <| And.intro @yD.eq_6
 <| And.intro @lB.eq_1
 <| And.intro @lB.eq_2
 <| And.intro @lB.eq_3
 <| And.intro @mV.eq_1
 <| And.intro @mV.eq_2
 <| And.intro @gD.eq_1
 <| And.intro @vh.eq_1
 <| And.intro @iM.eq_1
 <| And.intro @iM.eq_2
 <| And.intro @iM.eq_3
 <| And.intro @jV.eq_1
 <| And.intro @jV.eq_2
 <| And.intro @dZ.eq_1
 <| And.intro @j7.eq_1
 <| And.intro @c9.eq_1
 <| And.intro @c9.eq_2
 <| And.intro @sE.eq_1
 <| And.intro @sE.eq_2
 <| And.intro @rP.eq_1
 <| And.intro @rP.eq_2
 <| And.intro @rP.eq_3
 <| And.intro @rP.eq_4
 <| And.intro @rP.eq_5
 <| And.intro @rP.eq_6
 <| And.intro @kE.eq_1
 <| And.intro @ed.eq_1
 <| And.intro @ed.eq_2
 <| And.intro @ed.eq_3
 <| And.intro @eE.eq_def
 <| And.intro @Ig
 <| And.intro @cX.eq_1
 <| And.intro @cX.eq_2
 <| And.intro @cX.eq_3
 <| And.intro @cX.eq_4
 <| And.intro @cX.eq_5
 <| And.intro @gA.eq_1
 <| And.intro @kj.eq_1
 <| And.intro @mX.eq_1
 <| And.intro @mX.eq_2
 <| And.intro @df.eq_1
 <| And.intro @iU.eq_1
 <| And.intro @iU.eq_2
 <| And.intro @iU.eq_3
 <| And.intro @eh.eq_1
 <| And.intro @eh.eq_2
 <| And.intro @eh.eq_3
 <| And.intro @cE.eq_1
 <| And.intro @cE.eq_2
 <| And.intro @cE.eq_3
 <| And.intro @cE.eq_4
 <| And.intro @cE.eq_5
 <| And.intro @fK.eq_1
 <| And.intro @fK.eq_2
 <| And.intro @AV.cells.eq_1
 <| And.intro @AV.cells.eq_2
 <| And.intro @AV.cells.eq_3
 <| And.intro @AV.isAgg.eq_1
 <| And.intro @AV.isAgg.eq_2
 <| And.intro @AV.isAgg.eq_3
 <| And.intro @eJ.eq_1
 <| And.intro @eJ.eq_2
 <| And.intro @eJ.eq_3
 <| And.intro @oB.eq_1
 <| And.intro @aq.eq_1
 <| And.intro @aq.eq_2
 <| And.intro @aq.eq_3
 <| And.intro @aE.eq_1
 <| And.intro @aE.eq_2
 <| And.intro @aE.eq_3
 <| And.intro @c5.eq_1
 <| And.intro @c5.eq_2
 <| And.intro @c5.eq_3
 <| And.intro @c5.eq_4
 <| And.intro @bn.eq_1
 <| And.intro @bn.eq_2
 <| And.intro @bn.eq_3
 <| And.intro @bn.eq_4
 <| And.intro @bn.eq_5
 <| And.intro @bn.eq_6
 <| And.intro @bn.eq_7
 <| And.intro @iD.eq_1
 <| And.intro @iD.eq_2
 <| And.intro @after.eq_1
 <| And.intro @au.eq_1
 <| And.intro @au.eq_2
 <| And.intro @St.put.eq_1
 <| And.intro @St.put.eq_2
 <| And.intro @St.get.eq_1
 <| And.intro @lk.eq_1
 <| And.intro @lk.eq_2
 <| And.intro @St.ev.eq_1
 <| And.intro @St.ev.eq_2
 <| And.intro @St.ev.eq_3
 <| And.intro @St.ev.eq_4
 <| And.intro @cv.eq_1
 <| And.intro @cv.eq_2
 <| And.intro @cv.eq_3
 <| And.intro @cv.eq_4
 <| And.intro @cv.eq_5
 <| And.intro @PV.one.eq_1
 <| And.intro @PV.one.eq_2
 <| And.intro @PV.one.eq_3
 <| And.intro @entry.eq_1
 <| And.intro @yu.eq_1
 <| And.intro @yu.eq_2
 <| And.intro @uT.eq_1
 <| And.intro @uT.eq_2
 <| And.intro @uT.eq_3
 <| And.intro @jc.eq_1
 <| And.intro @jc.eq_2
 <| @eH.eq_1
def aH:=And.intro @Bool.not_eq_true'
 <| And.intro @Bool.not_eq_false'
 <| And.intro @Bool.not_eq_true
 <| And.intro @Bool.not_eq_false
 <| And.intro @Bool.and_eq_true
 <| And.intro @Bool.and_eq_false_iff
 <| And.intro @Bool.or_eq_true
 <| And.intro @Bool.or_eq_false_iff
 <| And.intro @decide_eq_true_eq
 <| And.intro @decide_eq_false_iff_not
 <| @Decidable.not_not
def leq:=And.intro @AV.p.injEq
 <| And.intro @AV.sl.injEq
 <| And.intro @AV.ptr.injEq
 <| And.intro @aM.own.injEq
 <| And.intro @PV.int.injEq
 <| And.intro @PV.bool.injEq
 <| And.intro @PV.list.injEq
 <| And.intro @Nat.sub_zero
 <| And.intro @Int.natCast_add
 <| And.intro @List.length_append.{0}
 <| And.intro @pQ
 <| And.intro @xF
 <| And.intro @xU
 <| And.intro @List.nodup_cons.{0}
 <| And.intro @List.nodup_nil.{0}
 <| And.intro @List.mem_cons.{0}
 <| And.intro @List.not_mem_nil.{0}
 <| And.intro @or_false
 <| @not_false_eq_true
def bw:=And.intro @Le.eq_1
 <| And.intro @kf.eq_1
 <| And.intro @kf.eq_2
 <| And.intro @kf.eq_3
 <| And.intro @jS.eq_1
 <| And.intro @jS.eq_2
 <| And.intro @jN.eq_1
 <| And.intro @jN.eq_2
 <| And.intro @jN.eq_3
 <| And.intro @jN.eq_4
 <| And.intro @jN.eq_5
 <| And.intro @jN.eq_6
 <| And.intro @bg.eq_1
 <| And.intro @bg.eq_2
 <| And.intro @bg.eq_3
 <| And.intro @bg.eq_4
 <| And.intro @bg.eq_5
 <| And.intro @bu.eq_1
 <| And.intro @bu.eq_2
 <| And.intro @bu.eq_3
 <| And.intro @bu.eq_4
 <| And.intro @bu.eq_5
 <| And.intro @bb.eq_1
 <| And.intro @bb.eq_2
 <| And.intro @bb.eq_3
 <| And.intro @bb.eq_4
 <| And.intro @bb.eq_5
 <| And.intro @bq.eq_1
 <| And.intro @bq.eq_2
 <| And.intro @bq.eq_3
 <| And.intro @bq.eq_4
 <| And.intro @bq.eq_5
 <| And.intro @bq.eq_6
 <| And.intro @bq.eq_7
 <| And.intro @bq.eq_8
 <| @bq.eq_9
def bY:=And.intro @B0.eq_1
 <| And.intro @B0.eq_2
 <| And.intro @B0.eq_3
 <| And.intro @zG.eq_1
 <| And.intro @mc.eq_1
 <| And.intro @mc.eq_2
 <| And.intro @Ag.eq_1
 <| And.intro @Ag.eq_2
 <| And.intro @iW.eq_1
 <| And.intro @iW.eq_2
 <| And.intro @ui.eq_1
 <| And.intro @ui.eq_2
 <| And.intro @dK.eq_1
 <| And.intro @dK.eq_2
 <| And.intro @dK.eq_3
 <| And.intro @dB.eq_1
 <| And.intro @dB.eq_2
 <| And.intro @dB.eq_3
 <| And.intro @dB.eq_4
 <| And.intro @cq.eq_1
 <| And.intro @cq.eq_2
 <| And.intro @PV.norm.eq_1
 <| And.intro @PV.norm.eq_2
 <| And.intro @PV.qp.eq_1
 <| And.intro @PV.qp.eq_2
 <| And.intro @PV.mD.eq_1
 <| And.intro @PV.mD.eq_2
 <| And.intro @PV.mD.eq_3
 <| And.intro @PV.mD.eq_4
 <| And.intro @PV.list.injEq
 <| And.intro @PV.tup.injEq
 <| And.intro @PV.agg.injEq
 <| And.intro @PV.int.injEq
 <| And.intro @PV.bool.injEq
 <| @List.cons.injEq.{0}
def Jb:=And.intro @I1
 <| And.intro @Ja
 <| And.intro @tx
 <| And.intro @AB
 <| And.intro @EB
 <| And.intro @FO
 <| And.intro @Eu
 <| And.intro @Int.cast_ofNat_Int
 <| And.intro @decide_true
 <| And.intro @decide_false
 <| And.intro @beq_self_eq_true.{0}
 <| And.intro @bne_self_eq_false.{0}
 <| And.intro @ite_true.{1}
 <| And.intro @ite_false.{1}
 <| And.intro @if_true.{1}
 <| @if_false.{1}
open Go.RowKit
section
variable {P:Program} {T:TypeId→Option TI} {C:Ctx} {m:Map} {s:St} {tmps:Array Value} {w:World} {Q:Exit→St→Prop}
theorem Rel.cells (R:Rel C m s tmps w) {k:Nat} {c c' : List AV} (hk:aq s.H k = .own c) (hl:c'.length=c.length)
  (hc:∀ j (h:j < c.length) (h' : j < c'.length) v,aG (Reads (OK C m s.H w) w) m s.H c[j] v→aG (Reads (OK C m s.H w) w) m s.H c'[j] v):Rel C m { s with H:=aE s.H k (.own c') } tmps w:=by
 have hk:=bh hk
 have hkl:k < s.H.length:=(List.getElem?_eq_some_iff.1 hk).1
 have aq:∀ (j:Nat) (b:aM),(aE s.H k (.own c'))[j]? = some b→(j=k∧b = .own c')∨(j ≠ k∧s.H[j]? = some b):=by
  intro j b h
  rw [cm] at h
  by_cases e:j=k
  ·rw [if_pos ⟨e,hkl⟩] at h; exact .inl ⟨e,(Option.some.inj h).symm⟩
  rw [if_neg (by simp [e])] at h; exact .inr ⟨e,h⟩
 have own:∀ (j:Nat) (d:List AV),(aE s.H k (.own c'))[j]? = some (.own d)→∃ d',s.H[j]? = some (.own d'):=by
  intro j d h
  rcases aq j _ h with ⟨rfl,h⟩ | h
  ·exact ⟨c,hk⟩
  exact ⟨d,h.2⟩
 have hok:∀ b,OK C m s.H w b→∀ j d l,(aE s.H k (.own c'))[j]? = some (.own d)→m j=some l→l.g ≠ b:=fun b hb j d l h hl=>by
  obtain ⟨d',h'⟩:=own j d h
  exact hb.2.2 j d' l h' hl
 have ho:∀ b,OK C m s.H w b→OK C m (aE s.H k (.own c')) w b:=fun b h=>⟨h.1,h.2.1,hok b h⟩
 refine R.heap (bV.refl _ _) (by simp [aA]) (fun _ _=>rfl) hok (fun _ _=>rfl) ?_ ?_ ?_ (lE rfl)
 ·intro j j' c1 c2 l1 l2 h1 h2 h3 h4 h5
  obtain ⟨d1,g1⟩:=own j c1 h1
  obtain ⟨d2,g2⟩:=own j' c2 h2
  exact R.inj j j' d1 d2 l1 l2 g1 g2 h3 h4 h5
 ·intro j d h
  rcases aq j _ h with ⟨rfl,h'⟩ | ⟨hne,h⟩
  ·cases h'
   rcases R.blk j c hk with ⟨hc0,hn⟩ | ⟨l,cur,e,hl2,hB,hg,h1,h2,h3,hcells⟩
   ·subst hc0
    exact .inl ⟨List.eq_nil_of_length_eq_zero (by simpa using hl),hn⟩
   refine .inr ⟨l,cur,e,hl2,hB,hg,h1,h2,by omega,fun i hi=>?_⟩
   exact (hc i (by omega) hi _ (hcells i (by omega))).ext (fun p v h=>h.ext ho fun _ _=>rfl) (by simp [aA]) fun _ _=>rfl
  exact (R.blk j d h).ext (fun p v h=>h.ext ho fun _ _=>rfl) (by simp [aA]) (fun _ _=>rfl) rfl fun _ _=>rfl
 intro j d h
 rcases aq j _ h with ⟨rfl,h'⟩ | ⟨hne,h⟩
 ·cases h'
 exact (R.fro j d h).ext ho (fun _ _=>rfl) rfl
theorem AR {c:Code} (k:Nat) {b b' : List AV} (hk:aq s.H k = .own b) (hl:b'.length=b.length)
  (hc:∀ C m tmps w,Rel C m s tmps w→∀ j (h:j < b.length) (h' : j < b'.length) v,aG (Reads (OK C m s.H w) w) m s.H b[j] v→aG (Reads (OK C m s.H w) w) m s.H b'[j] v)
  (h:Holds P c Q { s with H:=aE s.H k (.own b') }):Holds P c Q s:=
 fun r ds C m a w R hd=>h r ds C m a w (R.cells hk hl (hc C m a.tmps w R)) hd
theorem ua {c:Code} (k j:Nat) {b:List AV} (hk:aq s.H k = .own b) (hj:b[j]? = some (.p .nil)) (h:Holds P c Q { s with H:=aE (s.H++[.own []]) k (.own (b.set j (.sl s.H.length 0 0))) }):Holds P c Q s:=by
 intro r ds C m a w R hd
 have R':=R.sk
 have hk' : aq (s.H++[.own []]) k = .own b:=by
  have h1:=bh hk
  have key:∀ (H:aw) (k:Nat) (b:aM) (H2:aw),H[k]? = some b→aq (H++H2) k=b:=by
   intro H
   induction H with
   | nil=>intro k b H2 h; simp at h
   | cons x r ih =>
    intro k b H2 h
    cases k with
    | zero=>simp at h; exact h
    | succ k=>exact ih k b H2 (by simpa using h)
  exact key _ _ _ _ h1
 refine h r ds C _ a w (R'.cells (s:={ s with H:=s.H++[.own []] }) hk' (by simp) fun i hi hi' v hv=>?_) hd
 by_cases e:j=i
 ·subst e
  rw [List.getElem_set_self]
  have hb:b[j] = .p .nil:=by
   rw [List.getElem?_eq_getElem hi] at hj
   exact Option.some.inj hj
  rw [hb] at hv
  have:=hv.aP.eO
  subst this
  exact .sl _ _ _ _ (by simp) <| .inl ⟨rfl,none,rfl⟩
 rw [List.getElem_set_ne e]
 exact hv
theorem om {c:Code} (k j:Nat) {b:List AV} {x:AV} (hk:aq s.H k = .own b) (hj:b[j]? = some x) {p:Prop} {pv:PV} (hx:dB s.H x=some (p,pv,true)) (hp:p)
  (h:Holds P c Q { s with H:=aE s.H k (.own (b.set j (.p pv))) }):Holds P c Q s:=by
 refine AR k hk (by simp) (fun C m tmps w R i hi hi' v hv=>?_) h
 by_cases e:j=i
 ·subst e
  rw [List.getElem_set_self]
  have hb:b[j]=x:=by
   rw [List.getElem?_eq_getElem hi] at hj
   exact Option.some.inj hj
  rw [hb] at hv
  exact .p _ _ ((jJ R hv hx hp).2 rfl)
 rw [List.getElem_set_ne e]
 exact hv
end
def bF (l:List PV):List AV:=l.map .p
theorem bz (l:List PV):(bF l).length=l.length:=by simp [bF]
theorem Aj (l:List PV) (n:Nat):(bF l).take n=bF (l.take n):=by simp [bF]
theorem AF (l:List PV) (n:Nat):(bF l).drop n=bF (l.drop n):=by simp [bF]
theorem vG (l r:List PV):bF l++bF r=bF (l++r):=by simp [bF]
theorem lr (l:List PV) (x:PV):bF l++[.p x]=bF (l++[x]):=by simp [bF]
theorem k7 (l:List PV) (π:List Nat):(bF l).map (Go.Pv.bg π)=bF l:=by simp [bF,Go.Pv.bg,bu]
theorem lL (l:List PV) (n:Nat):(bF l).all (bb n)=true:=by simp [bF,bb,bq]
theorem kJ (l:List PV):eJ (bF l)=some l:=by
 unfold bF
 induction l with
 | nil=>rfl
 | cons x r ih=>simp [eJ,ih]
theorem uU {l:List PV} (h:l.all PV.one=true):(bF l).all bn=true:=by
 unfold bF
 rw [List.all_map]
 exact h
theorem oR (r:List (List Int)):(bF (ll r)).all bn=true:=uU (jf r)
theorem cB (r:List (List Int)) (x:List Int):ll r++[.list (il x)]=ll (r++[x]):=by simp [ll]
def Jd:=And.intro @bz
 <| And.intro @Aj
 <| And.intro @AF
 <| And.intro @vG
 <| And.intro @lr
 <| And.intro @k7
 <| And.intro @lL
 <| And.intro @kJ
 <| And.intro @oR
 <| And.intro @cB
 <| And.intro @ay
 <| And.intro @jf
 <| @ux
def ak := And.intro I0 <| And.intro I5 <| And.intro Jb Jd
theorem fT:∀ (H:aw) (k:Nat) (b:aM),k < H.length→aq (aE H k b) k=b
 | [],k,b,h=>by simp at h
 | x :: r,0,b,h=>rfl
 | x :: r,k + 1,b,h=>fT r k b (by simpa using h)
theorem oN {P:Program} {s:St} {c:Code} {Q:Exit→St→Prop} (t k:Nat) {l:List PV} (hone:l.all PV.one=true) (h1:s.get t = .sl k 0 l.length) (h2:aq s.H k = .own (bF l)) (h:Holds P c Q { s with sl:=(t,.p (.list l)) :: s.sl,H:=aE s.H k (.fro l) }):Holds P c Q s:=by
 refine bX k h2 (kJ l) (nH (s:={ s with H:=aE s.H k (.fro l) }) t (p:=0 + l.length≤l.length∧((l.drop 0).take l.length).all PV.one=true) (pv:=.list ((l.drop 0).take l.length)) ?_ ?_ ?_)
 ·have e:({ s with H:=aE s.H k (.fro l) } : St).get t = .sl k 0 l.length:=h1
  rw [e]
  have hk:=bh h2
  have hkl:k < s.H.length:=(List.getElem?_eq_some_iff.1 hk).1
  simp only [dK,dB,fT _ _ _ hkl]
 ·simp only [List.drop_zero,fZ]
  exact ⟨by omega,hone⟩
 simp only [List.drop_zero,fZ]
 exact h
open Go.RowKit
inductive bm (κ:Nat):AV→Prop
 | dead:bm κ .dead
 | p (v:PV):bm κ (.p v)
 | sl (k lo len:Nat) (h:k ≠ κ):bm κ (.sl k lo len)
 | ptr (k i:Nat) (h:k ≠ κ):bm κ (.ptr k i)
 | mptr (k:Nat) (h:k ≠ κ):bm κ (.mptr k)
 | yv (k:Nat) (l:List AV) (vs:Array Value) (h:k ≠ κ) (h2:∀ c (h:c < l.length),bm κ l[c]):bm κ (.yv k l vs)
 | agg (l:List AV) (h:∀ c (h:c < l.length),bm κ l[c]):bm κ (.agg l)
 | tup (l:List AV) (h:∀ c (h:c < l.length),bm κ l[c]):bm κ (.tup l)
 | cl (f:FuncId) (l:List AV) (h:∀ c (h:c < l.length),bm κ l[c]):bm κ (.cl f l)
 | lH (r:Nat):bm κ (.lH r)
 | sls (k lo len sz:Nat) (h:k ≠ κ):bm κ (.sls k lo len sz)
def wE (κ:Nat):AV→Bool
 | .sl k _ _=>k != κ
 | .sls k _ _ _=>k != κ
 | .ptr k _=>k != κ
 | .mptr k=>k != κ
 | .agg _=>false
 | .tup _=>false
 | .cl _ _=>false
 | .yv _ _ _=>false
 | _=>true
def HO (κ:Nat):AV→Bool
 | .agg l=>l.all (wE κ)
 | .tup l=>l.all (wE κ)
 | .cl _ l=>l.all (wE κ)
 | .yv k l _=>(k != κ) && l.all (wE κ)
 | x=>wE κ x
theorem eT {κ:Nat} {x:AV} (h:wE κ x=true):bm κ x:=by
 cases x with
 | dead=>exact .dead
 | p v=>exact .p v
 | sl k lo len=>exact .sl _ _ _ (by simpa [wE] using h)
 | ptr k i=>exact .ptr _ _ (by simpa [wE] using h)
 | mptr k=>exact .mptr _ (by simpa [wE] using h)
 | yv k l vs=>simp [wE] at h
 | agg l=>simp [wE] at h
 | tup l=>simp [wE] at h
 | cl f l=>simp [wE] at h
 | lH r=>exact .lH r
 | sls k lo len sz=>exact .sls _ _ _ _ (by simpa [wE] using h)
theorem ug {κ:Nat} {x:AV} (h:HO κ x=true):bm κ x:=by
 cases x with
 | agg l=>exact .agg l fun c hc=>eT ((List.all_eq_true.1 h) _ (List.getElem_mem hc))
 | tup l=>exact .tup l fun c hc=>eT ((List.all_eq_true.1 h) _ (List.getElem_mem hc))
 | cl f l=>exact .cl f l fun c hc=>eT ((List.all_eq_true.1 h) _ (List.getElem_mem hc))
 | dead=>exact .dead
 | p v=>exact .p v
 | sl k lo len=>exact eT h
 | ptr k i=>exact eT h
 | mptr k=>exact eT h
 | yv k l vs =>
  simp only [HO,Bool.and_eq_true,bne_iff_ne] at h
  exact .yv _ _ _ h.1 fun c hc=>eT ((List.all_eq_true.1 h.2) _ (List.getElem_mem hc))
 | lH r=>exact .lH r
 | sls k lo len sz=>exact eT h
theorem aG.tW {rd:PV→Value→Prop} {m:Map} {H:aw} {x:AV} {v:Value} (h:aG rd m H x v) {κ:Nat} (hk:H.length≤κ):bm κ x:=by
 induction h with
 | dead v=>exact .dead
 | p pv v h=>exact .p pv
 | sl k lo len v hk' h=>exact .sl _ _ _ (by omega)
 | ptr k i v hk' h=>exact .ptr _ _ (by omega)
 | mptr k v hk' h=>exact .mptr _ (by omega)
 | yv k l vs v hk' h hl hr ih=>exact .yv _ _ _ (by omega) ih
 | agg l vs hl hr ih=>exact .agg l ih
 | tup l vs hl hr ih=>exact .tup l ih
 | cl f l vs hl hr ih=>exact .cl f l ih
 | lH r=>exact .lH r
 | sls k lo len sz v hk' h=>exact .sls _ _ _ _ (by omega)
theorem aG.FA {rd rd' : PV→Value→Prop} {m m' : Map} {H H' : aw} {κ L:Nat} (h1:∀ p v,rd p v→rd' p v) (h2:∀ k,k ≠ κ→k ≠ L→k < H.length→m' k=m k∧k < H'.length) {a:AV} {v:Value} (h:aG rd m H a v) (hk:bm κ a) (hL:bm L a):aG rd' m' H' a v:=by
 induction h with
 | dead v=>exact .dead v
 | p pv v h=>exact .p pv v (h1 _ _ h)
 | sl k lo len v hk' h =>
  cases hk with
  | sl _ _ _ e1 =>
  cases hL with
  | sl _ _ _ e2 =>
  obtain ⟨e3,e4⟩:=h2 k e1 e2 hk'
  refine .sl k lo len v e4 ?_
  rcases h with h | ⟨l,cap,h,r⟩
  ·exact .inl h
  exact .inr ⟨l,cap,by rw [e3]; exact h,r⟩
 | mptr k v hk' h =>
  cases hk with
  | mptr _ e1 =>
  cases hL with
  | mptr _ e2 =>
  obtain ⟨e3,e4⟩:=h2 k e1 e2 hk'
  refine .mptr k v e4 ?_
  obtain ⟨l,h,r⟩:=h
  exact ⟨l,by rw [e3]; exact h,r⟩
 | yv k l vs v hk' h hl hr ih =>
  cases hk with
  | yv _ _ _ e1 f1 =>
  cases hL with
  | yv _ _ _ e2 f2 =>
  obtain ⟨e3,e4⟩:=h2 k e1 e2 hk'
  refine .yv k l vs v e4 ?_ hl fun c hc=>ih c hc (f1 c hc) (f2 c hc)
  obtain ⟨l,h,r⟩:=h
  exact ⟨l,by rw [e3]; exact h,r⟩
 | ptr k i v hk' h =>
  cases hk with
  | ptr _ _ e1 =>
  cases hL with
  | ptr _ _ e2 =>
  obtain ⟨e3,e4⟩:=h2 k e1 e2 hk'
  refine .ptr k i v e4 ?_
  obtain ⟨l,h,r⟩:=h
  exact ⟨l,by rw [e3]; exact h,r⟩
 | agg l vs hl hr ih =>
  cases hk with
  | agg _ e1 =>
  cases hL with
  | agg _ e2=>exact .agg l vs hl fun c hc=>ih c hc (e1 c hc) (e2 c hc)
 | tup l vs hl hr ih =>
  cases hk with
  | tup _ e1 =>
  cases hL with
  | tup _ e2=>exact .tup l vs hl fun c hc=>ih c hc (e1 c hc) (e2 c hc)
 | cl f l vs hl hr ih =>
  cases hk with
  | cl _ _ e1 =>
  cases hL with
  | cl _ _ e2=>exact .cl f l vs hl fun c hc=>ih c hc (e1 c hc) (e2 c hc)
 | lH r=>exact .lH r
 | sls k lo len sz v hk' h =>
  cases hk with
  | sls _ _ _ _ e1 =>
  cases hL with
  | sls _ _ _ _ e2 =>
  obtain ⟨e3,e4⟩:=h2 k e1 e2 hk'
  refine .sls k lo len sz v e4 ?_
  rcases h with h | ⟨l,cap,h,r⟩
  ·exact .inl h
  exact .inr ⟨l,cap,by rw [e3]; exact h,r⟩
section
variable {P:Program} {T:TypeId→Option TI} {C:Ctx} {m:Map} {s:St} {tmps:Array Value} {w:World}
theorem aR:∀ (H:aw) (k j:Nat) (b:aM),aq (aE H k b) j=if j=k∧k < H.length then b else aq H j
 | [],k,j,b=>by simp [aE]
 | x :: r,0,0,b=>by simp [aE,aq]
 | x :: r,0,j + 1,b=>by simp [aE,aq]
 | x :: r,k + 1,0,b=>by simp [aE,aq]
 | x :: r,k + 1,j + 1,b=>by simp [aE,aq,aR r k j b]
theorem jq:∀ {H H' : aw},H.length=H'.length→(∀ j,aq H j=aq H' j)→H=H'
 | [],[],_,_=>rfl
 | x :: r,y :: t,hl,h=>by
  have h0:=h 0
  simp only [aq] at h0
  rw [h0,jq (H:=r) (H':=t) (by simpa using hl) fun j=>by simpa [aq] using h (j + 1)]
 | [],_ :: _,hl,_=>by simp at hl
 | _ :: _,[],hl,_=>by simp at hl
theorem aF:∀ {H H2:aw} {j:Nat},j < H.length→aq (H++H2) j=aq H j
 | x :: r,H2,0,_=>rfl
 | x :: r,H2,j + 1,h=>by simpa [aq] using aF (H:=r) (H2:=H2) (j:=j) (by simpa using h)
 | [],H2,j,h=>by simp at h
theorem aX:∀ {H H2:aw} {j:Nat},H.length≤j→aq (H++H2) j=aq H2 (j - H.length)
 | [],H2,j,_=>by simp
 | x :: r,H2,0,h=>by simp at h
 | x :: r,H2,j + 1,h=>by
  simp only [List.cons_append,aq,List.length_cons]
  rw [aX (H:=r) (by simpa using h)]
  congr 1; omega
theorem lF:∀ (n j:Nat),aq (List.replicate n aM.dead) j = .dead
 | 0,j=>rfl
 | n + 1,0=>rfl
 | n + 1,j + 1=>by simpa [List.replicate_succ,aq] using lF n j
theorem Rel.pad (R:Rel C m s tmps w) (n:Nat):Rel C m { s with H:=s.H++List.replicate n .dead } tmps w:=by
 have hg:∀ (k:Nat) (b:aM),(s.H++List.replicate n .dead)[k]? = some b→b ≠ .dead→s.H[k]? = some b:=by
  intro k b h hb
  by_cases hk:k < s.H.length
  ·rwa [List.getElem?_append_left hk] at h
  rw [List.getElem?_append_right (by omega),List.getElem?_replicate] at h
  split at h
  ·cases h; exact absurd rfl hb
  cases h
 have hok:∀ b,OK C m s.H w b→∀ k c l,(s.H++List.replicate n .dead)[k]? = some (.own c)→m k=some l→l.g ≠ b:=fun b hb k c l h hl=>hb.2.2 k c l (hg k _ h (by simp)) hl
 have ho:∀ b,OK C m s.H w b→OK C m (s.H++List.replicate n .dead) w b:=fun b h=>⟨h.1,h.2.1,hok b h⟩
 refine R.heap (bV.refl _ _) (by simp) (fun _ _=>rfl) hok (fun _ _=>rfl) ?_ ?_ ?_ (fun k b hb h=>hg k _ h (by intro e; subst e; cases hb))
 ·exact fun k k' c c' l l' h1 h2 h3 h4 h5=>R.inj k k' c c' l l' (hg k _ h1 (by simp)) (hg k' _ h2 (by simp)) h3 h4 h5
 ·exact fun k c h=>(R.blk k c (hg k _ h (by simp))).ext (fun p v h=>h.ext ho fun _ _=>rfl) (by simp) (fun _ _=>rfl) rfl fun _ _=>rfl
 exact fun k c h=>(R.fro k c (hg k _ h (by simp))).ext ho (fun _ _=>rfl) rfl
theorem Rel.move {m' : Map} {b:aM} {w' : World} {κ:Nat} (R:Rel C m s tmps w) (R' : Rel C m' { s with H:=s.H++[b] } tmps w') (hκ:s.H[κ]? = some .dead) (ha:∀ (k i j:Nat),s.H[k]? = some (aM.dt i j)→j ≠ κ) (ha2:∀ i j,b ≠ aM.dt i j)
  (hn:∀ t,bm κ (s.get t)) (hc:∀ (k:Nat) (c:List AV),s.H[k]? = some (aM.own c)→∀ (j:Nat) (h:j < c.length),bm κ c[j]) (hb:∀ (c:List AV),b=aM.own c→∀ (j:Nat) (h:j < c.length),bm κ c[j]∧bm s.H.length c[j]) :
  Rel C (bJ m' κ (m' s.H.length)) { s with H:=aE s.H κ b } tmps w'∧(∀ i v,aG (Reads (OK C m' (s.H++[b]) w') w') m' (s.H++[b]) (.ptr s.H.length i) v→aG (Reads (OK C (bJ m' κ (m' s.H.length)) (aE s.H κ b) w') w') (bJ m' κ (m' s.H.length)) (aE s.H κ b) (.ptr κ i) v) ∧
   (∀ lo len v,aG (Reads (OK C m' (s.H++[b]) w') w') m' (s.H++[b]) (.sl s.H.length lo len) v→aG (Reads (OK C (bJ m' κ (m' s.H.length)) (aE s.H κ b) w') w') (bJ m' κ (m' s.H.length)) (aE s.H κ b) (.sl κ lo len) v):=by
 have hκl:κ < s.H.length:=(List.getElem?_eq_some_iff.1 hκ).1
 have hml:∀ k,k ≠ κ→bJ m' κ (m' s.H.length) k=m' k:=fun k hk=>by simp [bJ,hk]
 have hmk:bJ m' κ (m' s.H.length) κ=m' s.H.length:=by simp [bJ]
 have hgl:(s.H++[b])[s.H.length]? = some b:=by simp
 have hg:∀ (k:Nat) (d:aM),(aE s.H κ b)[k]? = some d→(k=κ∧d=b)∨(k ≠ κ∧s.H[k]? = some d∧(s.H++[b])[k]? = some d):=by
  intro k d h
  rw [cm] at h
  by_cases e:k=κ
  ·rw [if_pos ⟨e,hκl⟩] at h; exact .inl ⟨e,(Option.some.inj h).symm⟩
  rw [if_neg (by simp [e])] at h
  exact .inr ⟨e,h,by rw [List.getElem?_append_left (List.getElem?_eq_some_iff.1 h).1]; exact h⟩
 have hok:∀ x,OK C m' (s.H++[b]) w' x→OK C (bJ m' κ (m' s.H.length)) (aE s.H κ b) w' x:=by
  refine fun x hx=>⟨hx.1,hx.2.1,fun k c l h hl=>?_⟩
  rcases hg k _ h with ⟨rfl,e⟩ | ⟨hne,_,h2⟩
  ·rw [hmk] at hl
   exact hx.2.2 _ c l (by rw [hgl,e]) hl
  rw [hml k hne] at hl
  exact hx.2.2 k c l h2 hl
 have hrd:∀ p v,Reads (OK C m' (s.H++[b]) w') w' p v→Reads (OK C (bJ m' κ (m' s.H.length)) (aE s.H κ b) w') w' p v:=fun p v h=>h.mono hok
 have hmv:∀ k,k ≠ κ→k ≠ s.H.length→k < (s.H++[b]).length→bJ m' κ (m' s.H.length) k=m' k∧k < (aE s.H κ b).length:=by
  intro k h1 h2 h3
  refine ⟨hml k h1,?_⟩
  rw [aA]; simp at h3; omega
 have mps:∀ (k:Nat) (kk:IntKind) (d:Int→Bool) (v:Int→PV),(aE s.H κ b)[k]? = some (aM.mp kk d v)→∃ j,(s.H++[b])[j]? = some (aM.mp kk d v)∧bJ m' κ (m' s.H.length) k=m' j∧(k=κ∧j=s.H.length∨k ≠ κ∧j=k∧k < s.H.length):=by
  intro k kk d v h
  rcases hg k _ h with ⟨rfl,e⟩ | ⟨hne,h1,h2⟩
  ·exact ⟨s.H.length,by rw [hgl,e],hmk,.inl ⟨rfl,rfl⟩⟩
  exact ⟨k,h2,hml k hne,.inr ⟨hne,rfl,(List.getElem?_eq_some_iff.1 h1).1⟩⟩
 refine ⟨⟨R'.laid.ext hrd,R'.below,R'.base,R'.size,?_,?_,?_,fun t=>?_,fun k kk d v h=>?_,fun k k' kk d v kk' d' v' l l' h1 h2 h3 h4 h5=>?_,fun k i j h=>?_,?_⟩,fun i v hv=>?_,fun lo len v hv=>?_⟩
 rotate_left 7
 ·have lps:∀ (k:Nat) (r:Loop),(aE s.H κ b)[k]? = some (aM.lp r)→∃ j,(s.H++[b])[j]? = some (aM.lp r)∧bJ m' κ (m' s.H.length) k=m' j∧j=(if k=κ then s.H.length else k)∧k < s.H.length:=by
   intro k r h
   rcases hg k _ h with ⟨rfl,e⟩ | ⟨hne,h1,h2⟩
   ·exact ⟨s.H.length,by rw [hgl,e],hmk,by simp,hκl⟩
   exact ⟨k,h2,hml k hne,by simp [hne],(List.getElem?_eq_some_iff.1 h1).1⟩
  refine R'.mp.2.2.2.ext (fun k=>if k=κ then s.H.length else k) (fun k r h=>?_) (fun k k' r r' h1 h2 e=>?_) (fun _ _ _ _ _ _=>rfl) fun _ _ _ _ _ h=>h
  ·obtain ⟨j,j1,j2,j3,_⟩:=lps k r h
   simp only [← j3]; exact ⟨j1,j2⟩
  obtain ⟨_,_,_,_,j4⟩:=lps k r h1
  obtain ⟨_,_,_,_,i4⟩:=lps k' r' h2
  split at e<;>split at e<;>omega
 rotate_left 2
 rotate_left 4
 ·obtain ⟨j,j1,j2,_⟩:=mps k kk d v h
  obtain ⟨l,ar,clk,vs,a1,a2,a3,a4,a5,a6,a7⟩:=R'.mp.1 j kk d v j1
  exact ⟨l,ar,clk,vs,by rw [j2]; exact a1,a2,a3,a4,a5,a6,fun z hz=>hrd _ _ (a7 z hz)⟩
 ·obtain ⟨j,j1,j2,j3⟩:=mps _ _ _ _ h1
  obtain ⟨i,i1,i2,i3⟩:=mps _ _ _ _ h2
  rw [j2] at h3; rw [i2] at h4
  have:=R'.mp.2.1 _ _ _ _ _ _ _ _ _ _ j1 i1 h3 h4 h5
  omega
 ·rcases hg k _ h with ⟨rfl,e⟩ | ⟨hne,h1,h2⟩
  ·exact absurd e.symm (ha2 i j)
  obtain ⟨c1,c2⟩:=R'.mp.2.2.1 k i j h2
  have hj:=(R.mp.2.2.1 k i j h1).1
  exact ⟨by rw [aA]; exact hj,by rw [hml j (ha k i j h1)]; exact c2⟩
 rotate_left 2
 ·intro k k' c c' l l' h1 h2 h3 h4 h5
  rcases hg k _ h1 with ⟨rfl,e1⟩ | ⟨n1,g1,f1⟩<;>rcases hg k' _ h2 with ⟨rfl,e2⟩ | ⟨n2,g2,f2⟩
  ·rfl
  ·rw [hmk] at h3; rw [hml k' n2] at h4
   have:=R'.inj _ k' c c' l l' (by rw [hgl,e1]) f2 h3 h4 h5
   have:=(List.getElem?_eq_some_iff.1 g2).1
   omega
  ·rw [hmk] at h4; rw [hml k n1] at h3
   have:=R'.inj k _ c c' l l' f1 (by rw [hgl,e2]) h3 h4 h5
   have:=(List.getElem?_eq_some_iff.1 g1).1
   omega
  rw [hml k n1] at h3; rw [hml k' n2] at h4
  exact R'.inj k k' c c' l l' f1 f2 h3 h4 h5
 ·intro k c h
  rcases hg k _ h with ⟨rfl,e1⟩ | ⟨n1,g1,f1⟩
  ·rcases R'.blk _ c (by rw [hgl,e1]) with ⟨a1,a2⟩ | ⟨l,cur,e,a1,a2,a3,a4,a5,a6,a7⟩
   ·exact .inl ⟨a1,by rw [hmk]; exact a2⟩
   exact .inr ⟨l,cur,e,by rw [hmk]; exact a1,a2,a3,a4,a5,a6,fun j hj=>(a7 j hj).FA hrd hmv (hb c e1.symm j hj).1 (hb c e1.symm j hj).2⟩
  rcases R'.blk k c f1 with ⟨a1,a2⟩ | ⟨l,cur,e,a1,a2,a3,a4,a5,a6,a7⟩
  ·exact .inl ⟨a1,by rw [hml k n1]; exact a2⟩
  refine .inr ⟨l,cur,e,by rw [hml k n1]; exact a1,a2,a3,a4,a5,a6,fun j hj=>(a7 j hj).FA hrd hmv (hc k c g1 j hj) ?_⟩
  rcases R.blk k c g1 with ⟨b1,_⟩ | ⟨l2,cur2,e2,_,_,_,_,_,_,b7⟩
  ·subst b1; simp at hj
  exact (b7 j hj).tW (Nat.le_refl _)
 ·intro k c h
  rcases hg k _ h with ⟨rfl,e1⟩ | ⟨n1,g1,f1⟩
  ·rcases R'.fro _ c (by rw [hgl,e1]) with ⟨a1,a2⟩ | ⟨l,vs,a1,a2,a3,a4⟩
   ·exact .inl ⟨a1,by rw [hmk]; exact a2⟩
   exact .inr ⟨l,vs,by rw [hmk]; exact a1,hok _ a2,a3,fun j hj=>⟨(a4 j hj).1,(a4 j hj).2.mono hok⟩⟩
  exact (R'.fro k c f1).ext hok (fun _ _=>rfl) (hml k n1)
 ·exact (R'.slot t).FA hrd hmv (hn t) ((R.slot t).tW (Nat.le_refl _))
 ·cases hv with
  | ptr _ _ _ hk h =>
   obtain ⟨l,h,r⟩:=h
   exact .ptr _ _ _ (by rw [aA]; exact hκl) ⟨l,by rw [hmk]; exact h,r⟩
 cases hv with
 | sl _ _ _ _ hk h =>
  refine .sl _ _ _ _ (by rw [aA]; exact hκl) ?_
  rcases h with h | ⟨l,cap,h,r⟩
  ·exact .inl h
  exact .inr ⟨l,cap,by rw [hmk]; exact h,r⟩
end
open Go.RowKit
inductive fe where
 | f
 | ld (k:Nat)
 | st (k:Nat)
 | nw (k:Nat)
 | ap (k k' : Nat)
 | ms (l:List (Nat × aM)) 
instance:Inhabited fe:=⟨.f⟩
def fe.mR:fe→Nat→Bool
 | .f,_=>false
 | .ld k,b=>k == b
 | .st k,b=>k == b
 | .nw k,b=>k == b
 | .ap k k',b=>k == b || k' == b
 | .ms l,b=>l.any fun p=>p.1 == b
def fe.lv:fe→Nat→Bool
 | .st k,b=>k == b
 | .nw k,b=>k == b
 | .ap k k',b=>k == b || k' == b
 | .ms l,b=>l.any fun p=>p.1 == b
 | _,_=>false
def fe.mk:fe→Option Nat
 | .nw k=>some k
 | .ap _ k'=>some k'
 | _=>none
def mI:fe→fe→Bool
 | .f,_=>false
 | _,.f=>false
 | .ld _,.ld _=>false
 | .ld a,y=>y.mR a
 | .st a,y=>y.mR a
 | .nw a,y=>y.mR a
 | .ap a a',y=>y.mR a || y.mR a'
 | .ms l,y=>l.any fun p=>y.mR p.1
theorem fe.rL {c:fe} {b:Nat} (h:c.lv b=true):c.mR b=true:=by
 cases c<;>simp_all [fe.lv,fe.mR]
theorem qq {x y:fe} (h:mI x y=false) {b:Nat} (hx:x.mR b=true) (hy:y.mR b=true):(∃ k,x = .ld k)∧∃ k,y = .ld k:=by
 have any_no:∀ {l:List (Nat × aM)} {q:Nat→Bool},(l.any fun p=>q p.1)=false→(l.any fun p=>p.1 == b)=true→q b=false:=by
  intro l q h1 h2
  obtain ⟨p,hp,e⟩:=List.any_eq_true.1 h2
  have e:p.1=b:=by simpa using e
  have:=List.any_eq_false.1 h1 p hp
  rw [e] at this
  simpa using this
 cases x with
 | ms l =>
  exfalso
  cases y with
  | f=>simp [fe.mR] at hy
  | _ =>
   have h':=any_no (q:=fun k=>fe.mR _ k) (by simpa [mI] using h) (by simpa [fe.mR] using hx)
   rw [hy] at h'; cases h'
 | _ =>
  cases y with
  | ms l =>
   exfalso
   simp only [mI,fe.mR,beq_iff_eq,Bool.or_eq_true,Bool.or_eq_false_iff] at h hx hy
   first
    | (cases hx; done)
    | (subst hx; rw [hy] at h; cases h; done)
    | (rcases hx with hx|hx<;>subst hx<;>first|(rw [hy] at h; exact absurd h.1 (by decide))|(rw [hy] at h; exact absurd h.2 (by decide)))
  | _=>first|exact ⟨⟨_,rfl⟩,⟨_,rfl⟩⟩|(exfalso; simp [mI,fe.mR] at h hx hy; done)|(exfalso; simp [mI,fe.mR] at h hx hy; omega)
theorem j6 {x y:fe} (h:mI x y=false) (b:Nat):¬ (x.mR b=true∧y.lv b=true)∧¬ (x.lv b=true∧y.mR b=true):=by
 constructor
 ·rintro ⟨h1,h2⟩
  obtain ⟨_,k,e⟩:=qq h h1 (fe.rL h2)
  subst e; cases h2
 rintro ⟨h1,h2⟩
 obtain ⟨⟨k,e⟩,_⟩:=qq h (fe.rL h1) h2
 subst e; cases h1
structure I2 where
 c:fe
 av:AV
 b:aM
 pu:Bool
instance:Inhabited I2:=⟨⟨.f,.dead,.dead,false⟩⟩
def I2.qT (x:I2):List aM:=
 match x.c with
 | .ms l=>l.map (·.2)
 | _=>[x.b]
def I2.Pu (x:I2):Prop:=x.pu=true→∀ c,aM.own c∈x.qT→∀ (q:Nat) (h:q < c.length) (κ:Nat),bm κ c[q]
def rR:aw→List (Nat × aM)→aw
 | H,[]=>H
 | H,p :: l=>aE (rR H l) p.1 p.2
def Eo (j:Nat):List (Nat × aM)→aM
 | []=>.dead
 | p :: l=>if p.1=j then p.2 else Eo j l
theorem gx:∀ (l:List (Nat × aM)) (H:aw),(rR H l).length=H.length
 | [],H=>rfl
 | p :: l,H=>by rw [rR,aA,gx l H]
theorem lM (H:aw) (j:Nat):∀ l:List (Nat × aM),aq (rR H l) j=if (l.any fun p=>p.1 == j)=true∧j < H.length then Eo j l else aq H j
 | []=>by simp [rR]
 | p :: l=>by
  rw [rR,aR,gx,lM H j l]
  simp only [List.any_cons,Bool.or_eq_true,beq_iff_eq,Eo]
  by_cases h:p.1=j
  ·subst h
   by_cases hl:p.1 < H.length
   ·rw [if_pos ⟨rfl,hl⟩,if_pos ⟨.inl rfl,hl⟩,if_pos rfl]
   rw [if_neg (fun hh=>hl hh.2),if_neg (fun hh=>hl hh.2),if_neg (fun hh=>hl hh.2)]
  rw [if_neg (fun hh=>h hh.1.symm),if_neg h]
  by_cases h2:(l.any fun p=>p.1 == j)=true∧j < H.length
  ·rw [if_pos h2,if_pos ⟨.inr h2.1,h2.2⟩]
  rw [if_neg h2,if_neg (fun hh=>h2 ⟨hh.1.resolve_left h,hh.2⟩)]
theorem v8 {j:Nat} : ∀ {l:List (Nat × aM)},Eo j l = .dead∨∃ p∈l,Eo j l=p.2
 | []=>.inl rfl
 | p :: l=>by
  simp only [Eo]
  by_cases h:p.1=j
  ·rw [if_pos h]; exact .inr ⟨p,by simp,rfl⟩
  rw [if_neg h]
  rcases v8 (l:=l) with h | ⟨q,hq,e⟩
  ·exact .inl h
  exact .inr ⟨q,by simp [hq],e⟩
def l8 (x:I2) (H:aw):aw:=
 match x.c with
 | .ms l=>rR H l
 | .st k=>aE H k x.b
 | .nw k=>aE H k x.b
 | .ap k k'=>aE (aE H k .dead) k' x.b
 | _=>H
def j8 (x:I2) (H:aw):aw:=
 match x.c with
 | .ms l=>rR H l
 | .st k=>aE H k x.b
 | .nw _=>H++[x.b]
 | .ap k _=>aE H k .dead++[x.b]
 | _=>H
def wv (x:I2) (j:Nat):aM:=
 match x.c with
 | .ap _ k'=>if k' = j then x.b else .dead
 | .ms l=>Eo j l
 | _=>x.b
theorem w8 (x:I2) (j:Nat):wv x j = .dead∨wv x j∈x.qT:=by
 unfold wv I2.qT
 cases x.c with
 | ap k k' =>
  simp only
  split
  ·exact .inr (by simp)
  exact .inl rfl
 | ms l =>
  simp only
  rcases v8 (j:=j) (l:=l) with h | ⟨p,hp,e⟩
  ·exact .inl h
  exact .inr (by rw [e]; exact List.mem_map.2 ⟨p,hp,rfl⟩)
 | _=>exact .inr (by simp)
theorem td (x:I2) (H:aw):(l8 x H).length=H.length:=by
 unfold l8; split<;>simp [aA,gx]
theorem qB (x:I2) (H:aw) (j:Nat):aq (l8 x H) j=if x.c.lv j=true∧j < H.length then wv x j else aq H j:=by
 obtain ⟨c,av,b,pu⟩:=x
 cases c with
 | f=>simp [l8,fe.lv]
 | ms l=>simp only [l8,wv,fe.lv]; exact lM H j l
 | ld k=>simp [l8,fe.lv]
 | st k =>
  simp only [l8,wv,fe.lv,beq_iff_eq]
  rw [aR]
  by_cases h:j=k
  ·subst h; simp
  rw [if_neg (fun hh=>h hh.1),if_neg (fun hh=>h hh.1.symm)]
 | nw k =>
  simp only [l8,wv,fe.lv,beq_iff_eq]
  rw [aR]
  by_cases h:j=k
  ·subst h; simp
  rw [if_neg (fun hh=>h hh.1),if_neg (fun hh=>h hh.1.symm)]
 | ap k k' =>
  simp only [l8,wv,fe.lv,Bool.or_eq_true,beq_iff_eq]
  rw [aR,aA,aR]
  by_cases h:j=k'
  ·subst h
   by_cases hl:j < H.length
   ·rw [if_pos ⟨rfl,hl⟩,if_pos ⟨.inr rfl,hl⟩,if_pos rfl]
   rw [if_neg (fun hh=>hl hh.2),if_neg (show ¬ (j=k∧k < H.length) from fun hh=>hl (by rw [hh.1]; exact hh.2)),if_neg (show ¬ ((k=j∨j=j)∧j < H.length) from fun hh=>hl hh.2)]
  rw [if_neg (fun hh=>h hh.1)]
  by_cases h2:j=k
  ·subst h2
   simp [Ne.symm h]
  rw [if_neg (fun hh=>h2 hh.1),if_neg (fun hh=>by rcases hh.1 with e | e; exact h2 e.symm; exact h e.symm)]
def ub (P:Program) (o:Oper) (s:St) (x:I2):Prop:=
 match x.c with
 | .ms l=>((∀ p∈l,p.1 < s.H.length)∧∀ p∈l,∀ i j,p.2 ≠ .dt i j)∧∀ s2:St,s2.n=s.n→fq o s s2→(∀ p∈l,p.1 < s2.H.length∧aq s2.H p.1=aq s.H p.1)→eZ P o s2 x.av (rR s2.H l)
 | .f=>∀ s2:St,s2.n=s.n→fq o s s2→eZ P o s2 x.av s2.H
 | .ld k=>k < s.H.length∧∀ s2:St,s2.n=s.n→fq o s s2→aq s2.H k=aq s.H k→eZ P o s2 x.av s2.H
 | .st k=>k < s.H.length∧∀ s2:St,s2.n=s.n→fq o s s2→aq s2.H k=aq s.H k→eZ P o s2 x.av (aE s2.H k x.b)
 | .nw k=>k=s.H.length∧∀ s2:St,s2.n=s.n→fq o s s2→s2.H[k]? = some .dead→(∀ t,bm k (s2.get t))→(∀ (j:Nat) (c:List AV),s2.H[j]? = some (aM.own c)→∀ (i:Nat) (h:i < c.length),bm k c[i])→(∀ (b i j:Nat),s2.H[b]? = some (aM.dt i j)→j ≠ k)→eZ P o s2 x.av (aE s2.H k x.b)
 | .ap q k=>(q < s.H.length∧k=s.H.length)∧∀ s2:St,s2.n=s.n→fq o s s2→aq s2.H q=aq s.H q→s2.H[k]? = some .dead→(∀ t,bm k (s2.get t))→(∀ (j:Nat) (c:List AV),s2.H[j]? = some (aM.own c)→∀ (i:Nat) (h:i < c.length),bm k c[i])→(∀ (b i j:Nat),s2.H[b]? = some (aM.dt i j)→j ≠ k)→eZ P o s2 x.av (aE (aE s2.H q .dead) k x.b)
inductive tB (P:Program) (all:Array Oper):List Oper→List I2→St→St→Prop
 | nil (s:St):tB P all [] [] s s
 | skip {o:Oper} {r:List Oper} {xs:List I2} {s s' : St} (hg:bt all s o=some false) (hd:∀ t,o.dst=some t→t < s.n) (hr:tB P all r xs (s.put o.dst (.p (.tup []))) s'):tB P all (o :: r) (⟨.f,.p (.tup []),.dead,false⟩ :: xs) s s'
 | op {o:Oper} {r:List Oper} {x:I2} {xs:List I2} {s s' : St} (hg:bt all s o=some true) (hd:∀ t,o.dst=some t→t < s.n) (h:ub P o s x) (hp:x.Pu) (hr:tB P all r xs (({ s with H:=j8 x s.H } : St).put o.dst x.av) s'):tB P all (o :: r) (x :: xs) s s'
section
variable {P:Program} {ops:Array Oper} {I:Nat→I2} {s:St}
def cS (ops:Array Oper) (I:Nat→I2) (s:St):Nat→St
 | 0=>s
 | k + 1=>({ cS ops I s k with H:=j8 (I k) (cS ops I s k).H } : St).put (bK ops k).dst (I k).av
structure DW (P:Program) (ops:Array Oper) (I:Nat→I2) (s:St) (j:Nat) (o:Oper):Prop where
 pu:(I j).Pu
 dst:∀ t,o.dst=some t→t < s.n
 how:(bt ops (cS ops I s j) o=some false∧I j=⟨.f,.p (.tup []),.dead,false⟩)∨(bt ops (cS ops I s j) o=some true∧ub P o (cS ops I s j) (I j))
theorem Dt:∀ k,(cS ops I s k).n=s.n
 | 0=>rfl
 | k + 1=>by simp only [cS]; rw [St.jR]; exact Dt k
theorem vr {s' : St} : ∀ (l:List Oper) (xs:List I2) (k:Nat),(∀ i,l[i]? = ops[k + i]?)→(∀ i x,xs[i]? = some x→I (k + i)=x)→k + l.length=ops.size →
  tB P ops l xs (cS ops I s k) s'→(∀ i o,k≤i→ops[i]? = some o→DW P ops I s i o)∧s' = cS ops I s ops.size
 | [],xs,k,hl,hx,hk,hr=>by
  cases hr
  simp at hk
  subst hk
  refine ⟨fun i o hi ho=>?_,rfl⟩
  have:=(Array.getElem?_eq_some_iff.1 ho).1
  omega
 | o :: r,xs,k,hl,hx,hk,hr=>by
  have ho:ops[k]? = some o:=by have:=hl 0; simpa using this.symm
  have hod:bK ops k=o:=eP ho
  have hl' : ∀ i,r[i]? = ops[k + 1 + i]?:=fun i=>by have:=hl (i + 1); simp only [List.getElem?_cons_succ] at this; rw [this]; congr 1; omega
  have hn:=Dt (ops:=ops) (I:=I) (s:=s) k
  cases hr with
  | skip hg hd hr =>
   rename_i xs
   have hIk:I k=⟨.f,.p (.tup []),.dead,false⟩:=by have:=hx 0 _ rfl; simpa using this
   have e:cS ops I s (k + 1)=(cS ops I s k).put o.dst (.p (.tup [])):=by simp only [cS]; rw [hIk,hod]; rfl
   rw [← e] at hr
   obtain ⟨g1,g2⟩:=vr r xs (k + 1) hl' (fun i x h=>by have:=hx (i + 1) x (by simpa using h); rw [← this]; congr 1; omega) (by simp at hk; omega) hr
   refine ⟨fun i o' hi ho'=>?_,g2⟩
   by_cases hik:i=k
   ·subst hik
    rw [ho] at ho'; cases ho'
    exact ⟨by rw [hIk]; intro h; (cases h),fun t ht=>by rw [← hn]; exact hd t ht,.inl ⟨hg,hIk⟩⟩
   exact g1 i o' (by omega) ho'
  | op hg hd h hpu hr =>
   rename_i x xs
   have hIk:I k=x:=by have:=hx 0 _ rfl; simpa using this
   have e:cS ops I s (k + 1)=({ cS ops I s k with H:=j8 x (cS ops I s k).H } : St).put o.dst x.av:=by simp only [cS]; rw [hIk,hod]
   rw [← e] at hr
   obtain ⟨g1,g2⟩:=vr r xs (k + 1) hl' (fun i x h=>by have:=hx (i + 1) x (by simpa using h); rw [← this]; congr 1; omega) (by simp at hk; omega) hr
   refine ⟨fun i o' hi ho'=>?_,g2⟩
   by_cases hik:i=k
   ·subst hik
    rw [ho] at ho'; cases ho'
    exact ⟨by rw [hIk]; exact hpu,fun t ht=>by rw [← hn]; exact hd t ht,.inr ⟨hg,by rw [hIk]; exact h⟩⟩
   exact g1 i o' (by omega) ho'
def tD (ops:Array Oper) (I:Nat→I2) (s:St) (L:Nat) (D:Nat→Bool):Nat→St
 | 0=>{ s with H:=s.H++List.replicate L .dead }
 | k + 1=>if D k then ({ tD ops I s L D k with H:=l8 (I k) (tD ops I s L D k).H } : St).put (bK ops k).dst (I k).av else tD ops I s L D k
variable {L:Nat}
theorem vm (D:Nat→Bool):∀ k,(tD ops I s L D k).n=s.n
 | 0=>rfl
 | k + 1=>by
  simp only [tD]
  split
  ·rw [St.jR]; exact vm D k
  exact vm D k
theorem kx (D:Nat→Bool):∀ k,(tD ops I s L D k).H.length=s.H.length + L
 | 0=>by simp [tD]
 | k + 1=>by
  simp only [tD]
  split
  ·rw [St.gi,td]; exact kx D k
  exact kx D k
theorem hU (D:Nat→Bool) (k t:Nat):(tD ops I s L D (k + 1)).get t=if D k=true∧(bK ops k).dst=some t then (I k).av else (tD ops I s L D k).get t:=by
 simp only [tD]
 by_cases h:D k=true
 ·rw [if_pos h,eN]
  by_cases hd:(bK ops k).dst=some t
  ·have hr:D k=true∧(bK ops k).dst=some t:=⟨h,hd⟩
   rw [if_pos hd,if_pos hr]
  have hr:¬ (D k=true∧(bK ops k).dst=some t):=fun hh=>hd hh.2
  rw [if_neg hd,if_neg hr]; rfl
 have hr:¬ (D k=true∧(bK ops k).dst=some t):=fun hh=>h hh.1
 rw [if_neg h,if_neg hr]
theorem eL (D:Nat→Bool) (k b:Nat):aq (tD ops I s L D (k + 1)).H b=if D k=true∧(I k).c.lv b=true∧b < s.H.length + L then wv (I k) b else aq (tD ops I s L D k).H b:=by
 simp only [tD]
 by_cases h:D k=true
 ·rw [if_pos h,St.gi]
  simp only
  rw [qB,kx]
  by_cases hd:(I k).c.lv b=true∧b < s.H.length + L
  ·rw [if_pos hd,if_pos ⟨h,hd⟩]
  rw [if_neg hd,if_neg (fun hh=>hd hh.2)]
 rw [if_neg h,if_neg (fun hh=>h hh.1)]
theorem mB (D : Nat → Bool) (t : Nat) : ∀ k n, k ≤ n → (∀ i, k ≤ i → i < n → D i = true → (bK ops i).dst ≠ some t) → (tD ops I s L D n).get t = (tD ops I s L D k).get t := by
  intro k n hkn h
  induction n with
  | zero => obtain rfl : k = 0 := by omega
            rfl
  | succ n ih =>
    by_cases hk : k = n + 1
    · rw [hk]
    · rw [hU, if_neg (fun hh => h n (by omega) (by omega) hh.1 hh.2)]
      exact ih (by omega) fun i h1 h2 => h i h1 (by omega)
theorem kP (D : Nat → Bool) (b : Nat) : ∀ k n, k ≤ n → (∀ i, k ≤ i → i < n → D i = true → (I i).c.lv b = false) → aq (tD ops I s L D n).H b = aq (tD ops I s L D k).H b := by
  intro k n hkn h
  induction n with
  | zero => obtain rfl : k = 0 := by omega
            rfl
  | succ n ih =>
    by_cases hk : k = n + 1
    · rw [hk]
    · rw [eL, if_neg (fun hh => by have := h n (by omega) (by omega) hh.1; rw [this] at hh; simp at hh)]
      exact ih (by omega) fun i h1 h2 => h i h1 (by omega)
theorem jn (D D' : Nat→Bool) (t:Nat):∀ k,(∀ i,i < k→(bK ops i).dst=some t→D i=D' i)→(tD ops I s L D k).get t=(tD ops I s L D' k).get t:=by
 intro k h
 induction k with
 | zero=>rfl
 | succ k ih =>
  rw [hU,hU,ih fun i hi=>h i (by omega)]
  by_cases hd:(bK ops k).dst=some t
  ·rw [h k (by omega) hd]
  rw [if_neg (fun hh=>hd hh.2),if_neg (fun hh=>hd hh.2)]
theorem iz (D D' : Nat→Bool) (b:Nat):∀ k,(∀ i,i < k→(I i).c.lv b=true→D i=D' i)→aq (tD ops I s L D k).H b=aq (tD ops I s L D' k).H b:=by
 intro k h
 induction k with
 | zero=>rfl
 | succ k ih =>
  rw [eL,eL,ih fun i hi=>h i (by omega)]
  by_cases hd:(I k).c.lv b=true
  ·rw [h k (by omega) hd]
  rw [if_neg (fun hh=>hd hh.2.1),if_neg (fun hh=>hd hh.2.1)]
def Fits (I:Nat→I2) (s:St) (ops:Array Oper) (n:Nat):Prop:=∀ k,k < n→match (I k).c with
 | .ld j=>j < (cS ops I s k).H.length
 | .st j=>j < (cS ops I s k).H.length
 | .nw j=>j=(cS ops I s k).H.length
 | .ap i j=>i < (cS ops I s k).H.length∧j=(cS ops I s k).H.length
 | .ms l=>∀ p∈l,p.1 < (cS ops I s k).H.length
 | .f=>True
theorem zP (x:I2) (H:aw):H.length≤(j8 x H).length:=by
 unfold j8; split<;>simp [aA,gx]
theorem cK : ∀ {k n : Nat}, k ≤ n → (cS ops I s k).H.length ≤ (cS ops I s n).H.length := by
  intro k n h
  induction n with
  | zero => obtain rfl : k = 0 := by omega
            exact Nat.le_refl _
  | succ n ih =>
    by_cases hk : k = n + 1
    · rw [hk]; exact Nat.le_refl _
    · refine Nat.le_trans (ih (by omega)) ?_
      simp only [cS]
      rw [St.gi]
      exact zP _ _
theorem fS:∀ {H:aw} {j:Nat},H.length≤j→aq H j = .dead
 | [],j,_=>by cases j<;>rfl
 | x :: r,0,h=>by simp at h
 | x :: r,j + 1,h=>fS (H:=r) (by simpa using h)
theorem F5 {n:Nat} (hf:Fits I s ops n) (hL:(cS ops I s n).H.length=s.H.length + L):∀ k,k≤n→(∀ t,(tD ops I s L (fun _=>true) k).get t=(cS ops I s k).get t)∧∀ b,aq (tD ops I s L (fun _=>true) k).H b=aq (cS ops I s k).H b:=by
 intro k
 induction k with
 | zero =>
  intro _
  refine ⟨fun t=>rfl,fun b=>?_⟩
  simp only [tD,cS]
  by_cases hb:b < s.H.length
  ·rw [aF hb]
  rw [aX (by omega),lF,fS (by omega)]
 | succ k ih =>
  intro hk
  obtain ⟨ih1,ih2⟩:=ih (by omega)
  have hle:=cK (ops:=ops) (I:=I) (s:=s) (show k + 1≤n from hk)
  have hlen:(j8 (I k) (cS ops I s k).H).length≤s.H.length + L:=by
   rw [← hL]
   refine Nat.le_trans ?_ hle
   simp only [cS]; rw [St.gi]; exact Nat.le_refl _
  refine ⟨fun t=>?_,fun b=>?_⟩
  ·rw [hU]
   simp only [cS]
   rw [eN,ih1]
   by_cases hd:(bK ops k).dst=some t
   ·rw [if_pos ⟨trivial,hd⟩,if_pos hd]
   rw [if_neg (fun hh=>hd hh.2),if_neg hd]; rfl
  rw [eL,ih2]
  simp only [cS]
  rw [St.gi]
  simp only
  have hfk:=hf k (by omega)
  unfold j8 at hlen ⊢
  unfold wv
  cases hc:(I k).c with
  | f=>simp [fe.lv]
  | ld j=>simp [fe.lv]
  | ms l =>
   rw [hc] at hfk
   have hjj:=cK (ops:=ops) (I:=I) (s:=s) (show k≤n by omega)
   simp only [fe.lv,true_and]
   rw [lM]
   by_cases hb:(l.any fun p=>p.1 == b)=true
   ·obtain ⟨p,hp,e⟩:=List.any_eq_true.1 hb
    have e:p.1=b:=by simpa using e
    have:=hfk p hp
    rw [if_pos ⟨hb,by omega⟩,if_pos ⟨hb,by omega⟩]
   rw [if_neg (fun hh=>hb hh.1),if_neg (fun hh=>hb hh.1)]
  | st j =>
   rw [hc] at hfk
   have hjj:=cK (ops:=ops) (I:=I) (s:=s) (show k≤n by omega)
   simp only [fe.lv,beq_iff_eq,true_and]
   rw [aR]
   by_cases hb:b=j
   ·subst hb
    rw [if_pos ⟨rfl,by omega⟩,if_pos ⟨rfl,hfk⟩]
   rw [if_neg (fun hh=>hb hh.1.symm),if_neg (fun hh=>hb hh.1)]
  | nw j =>
   rw [hc] at hfk hlen
   simp only [List.length_append,List.length_singleton] at hlen
   simp only [fe.lv,beq_iff_eq,true_and]
   by_cases hb:b=j
   ·subst hb
    rw [if_pos ⟨rfl,by omega⟩,aX (by omega),hfk,Nat.sub_self]; rfl
   rw [if_neg (fun hh=>hb hh.1.symm)]
   by_cases hlt:b < (cS ops I s k).H.length
   ·rw [aF hlt]
   rw [fS (by omega),fS (by simp; omega)]
  | ap i j =>
   rw [hc] at hfk hlen
   obtain ⟨hf1,hf2⟩:=hfk
   simp only [List.length_append,List.length_singleton,aA] at hlen
   have hjj:=cK (ops:=ops) (I:=I) (s:=s) (show k≤n by omega)
   simp only [fe.lv,Bool.or_eq_true,beq_iff_eq,true_and]
   by_cases hb:b=j
   ·subst hb
    rw [if_pos ⟨.inr rfl,by omega⟩,if_pos rfl,aX (by rw [aA]; omega),aA,hf2,Nat.sub_self]; rfl
   by_cases hb2:b=i
   ·subst hb2
    rw [if_pos ⟨.inl rfl,by omega⟩,if_neg (Ne.symm hb),aF (by rw [aA]; exact hf1),aR,if_pos ⟨rfl,hf1⟩]
   rw [if_neg (fun hh=>by rcases hh.1 with e | e; exact hb2 e.symm; exact hb e.symm)]
   by_cases hlt:b < (cS ops I s k).H.length
   ·rw [aF (by rw [aA]; exact hlt),aR,if_neg (fun hh=>hb2 hh.1)]
   rw [fS (by omega),fS (by simp [aA]; omega)]
def kd (ops:Array Oper) (I:Nat→I2) (i j:Nat):Bool:=(bK ops i).apart ops (bK ops j) && !mI (I i).c (I j).c
def HG (κ:Nat):aM→Bool
 | .own c=>c.all (HO κ)
 | _=>true
def j9:aM→Bool
 | .dt _ _=>false
 | _=>true
theorem mz {b:aM} (h:j9 b=true) (i j:Nat):b ≠ .dt i j:=by intro e; subst e; cases h
def I2.na (x:I2):Bool:=
 match x.c with
 | .ms _=>true
 | _=>j9 x.b
def lD (ops : Array Oper) (xs : List I2) : Bool :=
  (List.range ops.size).all fun j =>
    ((bK ops j).after.toList.all fun e => !Region.binds .any e || e.on < j) &&
    ((List.range j).all fun i => kd ops (fun i => xs.getD i default) i j || ((dt ops).getD j 0).testBit i) &&
    (match (xs.getD j default).c.mk with
     | some κ => (List.range ops.size).all fun i => i == j || ((dt ops).getD i 0).testBit j || (HO κ (xs.getD i default).av && ((xs.getD i default).pu || (xs.getD i default).qT.all (HG κ)))
     | none => true) && (xs.getD j default).na
theorem re {xs:List I2} (h:lD ops xs=true):(∀ j o,ops[j]? = some o→∀ e∈o.after.toList,Region.binds .any e=true→e.on < j) ∧
  (∀ i j,i < j→j < ops.size→kd ops (fun i=>xs.getD i default) i j=false→((dt ops).getD j 0).testBit i=true) ∧
  (∀ j κ,j < ops.size→(xs.getD j default).c.mk=some κ→∀ i,i < ops.size→i ≠ j→((dt ops).getD i 0).testBit j=false→bm κ (xs.getD i default).av∧((xs.getD i default).pu=false→∀ c,aM.own c∈(xs.getD i default).qT→∀ (q:Nat) (h:q < c.length),bm κ c[q])) ∧
  (∀ j,j < ops.size→(xs.getD j default).na=true):=by
 unfold lD at h
 rw [List.all_eq_true] at h
 refine ⟨?_,?_,?_,?_⟩
 rotate_left 3
 ·intro j hj
  have:=h j (by simpa using hj)
  rw [Bool.and_eq_true] at this
  exact this.2
 ·intro j o ho e he hb
  have hj:=(Array.getElem?_eq_some_iff.1 ho).1
  have:=h j (by simpa using hj)
  rw [Bool.and_eq_true,Bool.and_eq_true,Bool.and_eq_true] at this
  have h1:=(List.all_eq_true.1 this.1.1.1) e (by rw [eP ho]; exact he)
  rw [hb] at h1
  simpa using h1
 ·intro i j hij hj ha
  have:=h j (by simpa using hj)
  rw [Bool.and_eq_true,Bool.and_eq_true,Bool.and_eq_true] at this
  have h1:=(List.all_eq_true.1 this.1.1.2) i (by simpa using hij)
  rw [ha,Bool.false_or] at h1
  exact h1
 intro j κ hj hc i hi hij hb
 have:=h j (by simpa using hj)
 rw [Bool.and_eq_true,Bool.and_eq_true,Bool.and_eq_true] at this
 have h1:=this.1.2
 rw [hc] at h1
 have h2:=(List.all_eq_true.1 h1) i (by simpa using hi)
 rw [hb] at h2
 have hij' : (i == j)=false:=by simpa using hij
 rw [hij',Bool.false_or,Bool.false_or,Bool.and_eq_true] at h2
 refine ⟨ug h2.1,fun hpu c hc' q hq=>?_⟩
 have h3:=h2.2
 rw [hpu,Bool.false_or] at h3
 exact ug ((List.all_eq_true.1 ((List.all_eq_true.1 h3) _ hc')) _ (List.getElem_mem hq))
end
open Go.RowKit
theorem mP:∀ {H:aw} {k:Nat} {b:aM},k < H.length→aq H k=b→H[k]? = some b
 | x :: r,0,b,_,h=>by simp only [aq] at h; simp [h]
 | x :: r,k + 1,b,hk,h=>by simpa using mP (H:=r) (by simpa using hk) h
 | [],k,b,hk,_=>by simp at hk
theorem jj:∀ {H:aw} {k:Nat} {b:aM},H[k]? = some b→aq H k=b
 | x :: r,0,b,h=>by simpa [aq] using h
 | x :: r,k + 1,b,h=>jj (H:=r) (by simpa using h)
 | [],k,b,h=>by simp at h
section
variable {P:Program} {ops:Array Oper}
theorem tF {Q:Exit→Act→World→Prop} {C:Ctx} {ds:List Deferred} {s s' : St} {xs:List I2} (hok:lD ops xs=true) (hrun:tB P ops ops.toList xs s s') {m:Map} {a:Act} {w:World} (R:Rel C m s a.tmps w) (hd:a.defers=ds)
  (hQ:∀ m' (a' : Act) w',Rel C m' s' a'.tmps w'→a'.defers=ds→Q .normal a' w'):ns P .any ops Q ops.size (Array.replicate ops.size false) a w:=by
 obtain ⟨hedge,hconf,hnr,hna⟩:=re hok
 obtain ⟨I,hI⟩:∃ I:Nat→I2,I=fun i=>xs.getD i default:=⟨_,rfl⟩
 rw [← hI] at hconf
 have hna0:∀ j,j < ops.size→(I j).na=true:=by rw [hI]; exact hna
 have hnr0:∀ j κ,j < ops.size→(I j).c.mk=some κ→∀ i,i < ops.size→i ≠ j→((dt ops).getD i 0).testBit j=false→bm κ (I i).av∧((I i).pu=false→∀ c,aM.own c∈(I i).qT→∀ (q:Nat) (h:q < c.length),bm κ c[q]):=by
  rw [hI]; exact hnr
 obtain ⟨hfact,rfl⟩:=vr (P:=P) (ops:=ops) (I:=I) (s:=s) (s':=s') ops.toList xs 0 (fun i=>by simp) (fun i x h=>by rw [hI]; simp [List.getD,h]) (by simp) hrun
 have hfact:∀ i o,ops[i]? = some o→DW P ops I s i o:=fun i o=>hfact i o (Nat.zero_le _)
 have hna:∀ j,j < ops.size→∀ i k,aM.dt i k ∉ (I j).qT:=by
  intro j hj i k hm
  have h0:=hna0 j hj
  obtain ⟨_,_,hh⟩:=hfact j ops[j] (Array.getElem?_eq_getElem hj)
  unfold I2.qT at hm
  unfold I2.na at h0
  rcases hh with ⟨_,e⟩ | ⟨_,h⟩
  ·rw [e] at hm; simp at hm
  unfold ub at h
  split at hm
  ·rename_i l hc
   rw [hc] at h
   obtain ⟨p,hp,e⟩:=List.mem_map.1 hm
   exact h.1.2 p hp i k e
  split at h0
  ·rename_i hneg _ _ hc2
   exact absurd hc2 (hneg _)
  rw [List.mem_singleton] at hm
  exact mz h0 i k hm.symm
 have hnr:∀ j κ,j < ops.size→(I j).c.mk=some κ→∀ i,i < ops.size→i ≠ j→((dt ops).getD i 0).testBit j=false→bm κ (I i).av∧∀ c,aM.own c∈(I i).qT→∀ (q:Nat) (h:q < c.length),bm κ c[q]:=by
  intro j κ hj hc i hi hij hb
  obtain ⟨g1,g2⟩:=hnr0 j κ hj hc i hi hij hb
  refine ⟨g1,fun c hc' q hq=>?_⟩
  cases hpu:(I i).pu with
  | false=>exact g2 hpu c hc' q hq
  | true=>exact (hfact i ops[i] (Array.getElem?_eq_getElem hi)).pu hpu c hc' q hq κ
 have hfits:Fits I s ops ops.size:=by
  intro k hk
  obtain ⟨_,_,hh⟩:=hfact k ops[k] (Array.getElem?_eq_getElem hk)
  rcases hh with ⟨_,e⟩ | ⟨_,h⟩
  ·rw [e]; trivial
  unfold ub at h
  cases hc:(I k).c with
  | f=>trivial
  | ld j=>rw [hc] at h; exact h.1
  | ms l=>rw [hc] at h; exact h.1.1
  | st j=>rw [hc] at h; exact h.1
  | nw j=>rw [hc] at h; exact h.1
  | ap i j=>rw [hc] at h; exact h.1
 obtain ⟨L,hL⟩:∃ L,(cS ops I s ops.size).H.length=s.H.length + L:=⟨(cS ops I s ops.size).H.length - s.H.length,by
  have:=cK (ops:=ops) (I:=I) (s:=s) (Nat.zero_le ops.size)
  simp only [cS] at this; omega⟩
 have hall:=F5 hfits hL
 have hκ0:∀ j κ,j < ops.size→(I j).c.mk=some κ→s.H.length≤κ∧κ < s.H.length + L:=by
  intro j κ hj hc
  have h1:=hfits j hj
  have h2:=cK (ops:=ops) (I:=I) (s:=s) (Nat.zero_le j)
  have h3:=cK (ops:=ops) (I:=I) (s:=s) (show j + 1≤ops.size from hj)
  simp only [cS] at h2
  cases hcc:(I j).c with
  | nw k =>
   rw [hcc] at h1 hc
   simp only [fe.mk,Option.some.injEq] at hc
   simp only at h1
   have h4:(cS ops I s (j + 1)).H.length=(cS ops I s j).H.length + 1:=by
    simp only [cS]; rw [St.gi]; simp only [j8,hcc]; simp
   omega
  | ap q k =>
   rw [hcc] at h1 hc
   simp only [fe.mk,Option.some.injEq] at hc
   simp only at h1
   have h4:(cS ops I s (j + 1)).H.length=(cS ops I s j).H.length + 1:=by
    simp only [cS]; rw [St.gi]; simp only [j8,hcc]; simp [aA]
   omega
  | f=>rw [hcc] at hc; simp [fe.mk] at hc
  | ld _=>rw [hcc] at hc; simp [fe.mk] at hc
  | st _=>rw [hcc] at hc; simp [fe.mk] at hc
  | ms _=>rw [hcc] at hc; simp [fe.mk] at hc
 have hs0:∀ κ,s.H.length≤κ→(∀ t,bm κ (s.get t))∧(∀ (j:Nat) (c:List AV),s.H[j]? = some (aM.own c)→∀ (i:Nat) (h:i < c.length),bm κ c[i])∧∀ (b i j:Nat),s.H[b]? = some (aM.dt i j)→j ≠ κ:=by
  intro κ hκ
  refine ⟨fun t=>(R.slot t).tW hκ,fun j c hc i hi=>?_,fun b i j hb e=>by have:=(R.mp.2.2.1 b i j hb).1; omega⟩
  rcases R.blk j c hc with ⟨b1,_⟩ | ⟨l2,cur2,e2,_,_,_,_,_,_,b7⟩
  ·subst b1; simp at hi
  exact (b7 i hi).tW hκ
 have key:∀ (fuel:Nat) (listed:Array Bool) (m:Map) (a:Act) (w:World),listed.size=ops.size→(List.range ops.size).countP (fun i=>!listed.getD i true)=fuel →
   (∀ j o,listed.getD j false=true→ops[j]? = some o→∀ e∈o.after.toList,Region.binds .any e=true→listed.getD e.on false=true) →
   Rel C m (tD ops I s L (fun i=>listed.getD i false) ops.size) a.tmps w→a.defers=ds→ns P .any ops Q fuel listed a w:=by
  intro fuel
  induction fuel with
  | zero =>
   intro listed m a w hsz hcnt hcl R hd
   have hal:∀ i,i < ops.size→listed.getD i true=true:=by
    intro i hi
    have:=List.countP_eq_zero.1 hcnt i (by simpa using hi)
    simpa using this
   have hal' : ∀ i,i < ops.size→listed.getD i false=true:=by
    intro i hi
    have:=hal i hi
    simp [Array.getD_eq_getD_getElem?,Array.getElem?_eq_getElem (show i < listed.size by omega)] at this ⊢
    exact this
   obtain ⟨a1,a2⟩:=hall ops.size (Nat.le_refl _)
   refine ⟨?_,hQ m a w (R.congr (fun t=>?_) ?_ ?_) hd⟩
   ·unfold Region.ready
    rw [List.filter_eq_nil_iff]
    intro i hi
    have:=hal i (by simpa using hi)
    simp [this]
   ·rw [← a1]
    exact (jn _ _ t _ fun i hi _=>(hal' i hi)).symm
   ·refine jq (by rw [hL,kx]) fun b=>?_
    rw [← a2]
    exact (iz _ _ b _ fun i hi _=>(hal' i hi)).symm
   rw [vm,Dt]
  | succ fuel ih =>
   intro listed m a w hsz hcnt hcl R hd
   refine ⟨fun hnil=>?_,fun j hj=>?_⟩
   ·
    exfalso
    have hex:∃ i,i < ops.size∧listed.getD i true=false:=by
     have:0 < (List.range ops.size).countP (fun i=>!listed.getD i true):=by omega
     obtain ⟨i,hi,h⟩:=List.countP_pos_iff.1 this
     exact ⟨i,by simpa using hi,by simpa using h⟩
    have hmin:∃ i,i < ops.size∧listed.getD i true=false∧∀ k,k < i→listed.getD k true=true:=by
     obtain ⟨i,hi,h⟩:=hex
     induction i using Nat.strongRecOn with
     | _ i ihh =>
      by_cases hall:∀ k,k < i→listed.getD k true=true
      ·exact ⟨i,hi,h,hall⟩
      simp only [Classical.not_forall] at hall
      obtain ⟨k,hk,hkn⟩:=hall
      exact ihh k hk (by omega) (by simpa using hkn)
    obtain ⟨i,hi,hli,hbelow⟩:=hmin
    have hmem:i∈Region.ready .any ops listed:=by
     unfold Region.ready
     rw [List.mem_filter]
     refine ⟨by simpa using hi,?_⟩
     rw [hli,Array.getElem?_eq_getElem hi]
     simp only [Bool.not_false,Bool.true_and,Option.map_some,Option.getD_some]
     rw [Array.all_eq_true_iff_forall_mem]
     intro e he
     by_cases hb:Region.binds .any e=true
     ·have hlt:=hedge i ops[i] (Array.getElem?_eq_getElem hi) e (by simpa using he) hb
      have:=hbelow e.on hlt
      have hlt' : e.on < listed.size:=by omega
      simp [Array.getD_eq_getD_getElem?,Array.getElem?_eq_getElem hlt'] at this ⊢
      simp [this]
     simp [hb]
    rw [hnil] at hmem
    simp at hmem
   unfold Region.ready at hj
   rw [List.mem_filter] at hj
   obtain ⟨hjlt,hj⟩:=hj
   have hjlt:j < ops.size:=by simpa using hjlt
   have hoj:ops[j]? = some ops[j]:=Array.getElem?_eq_getElem hjlt
   generalize ops[j]=o at hoj
   rw [hoj] at hj
   simp only [Option.map_some,Option.getD_some,Bool.and_eq_true,Bool.not_eq_eq_eq_not,Bool.not_true] at hj
   obtain ⟨hnl,hal⟩:=hj
   have hjls:j < listed.size:=by omega
   have hnl' : listed.getD j false=false:=by
    simp [Array.getD_eq_getD_getElem?,Array.getElem?_eq_getElem hjls] at hnl ⊢
    exact hnl
   have hpre:∀ e∈o.after.toList,Region.binds .any e=true→listed.getD e.on false=true:=by
    intro e he hb
    have:=(Array.all_eq_true_iff_forall_mem.1 hal) e (by simpa using he)
    rw [hb] at this
    simpa using this
   have hanc:∀ i,((dt ops).getD j 0).testBit i=true→listed.getD i false=true:=
    sb (D:=fun i=>listed.getD i false=true) hcl j j o (Nat.le_refl _) hoj hpre
   have hanc' : ∀ i,listed.getD i false=true→∀ oi,ops[i]? = some oi→∀ k,((dt ops).getD i 0).testBit k=true→listed.getD k false=true:=
    fun i hi oi hoi=>sb (D:=fun i=>listed.getD i false=true) hcl i i oi (Nat.le_refl _) hoi (hcl i oi hi hoi)
   have hod:bK ops j=o:=eP hoj
   have low:∀ i,i < j→kd ops I i j=false→listed.getD i false=true:=fun i hi ha=>hanc i (hconf i j hi hjlt ha)
   have high:∀ i,j < i→i < ops.size→listed.getD i false=true→kd ops I j i=true:=by
    intro i hi hlt hli
    have hoi:ops[i]? = some ops[i]:=Array.getElem?_eq_getElem hlt
    by_cases ha:kd ops I j i=true
    ·exact ha
    have:=hanc' i hli ops[i] hoi j (hconf j i hi hlt (by simpa using ha))
    rw [this] at hnl'; cases hnl'
   have ap1:∀ {i k:Nat},kd ops I i k=true→(bK ops i).apart ops (bK ops k)=true∧mI (I i).c (I k).c=false:=by
    intro i k h
    unfold kd at h
    simpa using h
   have agree:∀ t,t∈o.looksAt ops→(tD ops I s L (fun i=>listed.getD i false) ops.size).get t=(cS ops I s j).get t:=by
    intro t ht
    rw [← (hall j (by omega)).1,mB _ t j ops.size (by omega) (fun i h1 h2 h3 h4=>?_)]
    ·refine jn _ _ t j fun i hi hdi=>?_
     rw [low i hi ?_]
     rw [Bool.eq_false_iff]
     intro hap
     have:=(ap1 hap).1
     rw [hod] at this
     exact (Oper.apart_spec this).1 t hdi ht
    by_cases hij:i=j
    ·subst hij; rw [hnl'] at h3; cases h3
    have:=(ap1 (high i (by omega) h2 h3)).1
    rw [hod] at this
    exact (Oper.apart_spec this).2.2 t h4 ht
   have agreeH:∀ b,(I j).c.mR b=true→aq (tD ops I s L (fun i=>listed.getD i false) ops.size).H b=aq (cS ops I s j).H b:=by
    intro b hb
    rw [← (hall j (by omega)).2,kP _ b j ops.size (by omega) (fun i h1 h2 h3=>?_)]
    ·refine iz _ _ b j fun i hi hwi=>?_
     rw [low i hi ?_]
     rw [Bool.eq_false_iff]
     intro hap
     exact (j6 (ap1 hap).2 b).2 ⟨hwi,hb⟩
    by_cases hij:i=j
    ·subst hij; rw [hnl'] at h3; cases h3
    rw [Bool.eq_false_iff]
    intro hw
    exact (j6 (ap1 (high i (by omega) h2 h3)).2 b).1 ⟨hb,hw⟩
   have hlist:∀ i,(listed.setIfInBounds j true).getD i false=if i=j then true else listed.getD i false:=by
    intro i
    simp only [Array.getD_eq_getD_getElem?]
    by_cases hij:i=j
    ·subst hij; rw [Array.getElem?_setIfInBounds_self_of_lt hjls,if_pos rfl]; rfl
    rw [Array.getElem?_setIfInBounds_ne (Ne.symm hij),if_neg hij]
   have insertGet:∀ t,(tD ops I s L (fun i=>(listed.setIfInBounds j true).getD i false) ops.size).get t=if o.dst=some t then (I j).av else (tD ops I s L (fun i=>listed.getD i false) ops.size).get t:=by
    intro t
    have base:∀ k,k≤j→(tD ops I s L (fun i=>(listed.setIfInBounds j true).getD i false) k).get t=(tD ops I s L (fun i=>listed.getD i false) k).get t:=fun k hk =>
     jn _ _ t k fun i hi _=>by rw [hlist,if_neg (by omega)]
    have step:∀ n,j + 1≤n→n≤ops.size→(tD ops I s L (fun i=>(listed.setIfInBounds j true).getD i false) n).get t=if o.dst=some t then (I j).av else (tD ops I s L (fun i=>listed.getD i false) n).get t:=by
     intro n hn hns
     induction n with
     | zero=>omega
     | succ n ihn =>
      by_cases hnj:n=j
      ·subst hnj
       rw [hU,hU,hod,base n (Nat.le_refl _),hlist,if_pos rfl,hnl']
       by_cases hdt:o.dst=some t
       ·simp [hdt]
       simp [hdt]
      rw [hU,hU,ihn (by omega) (by omega),hlist,if_neg hnj]
      by_cases hln:listed.getD n false=true∧(bK ops n).dst=some t
      ·rw [if_pos hln,if_pos hln]
       have hap:=(ap1 (high n (by omega) (by omega) hln.1)).1
       rw [hod] at hap
       by_cases hdt:o.dst=some t
       ·exact absurd hln.2 ((Oper.apart_spec hap).2.1 t hdt)
       rw [if_neg hdt]
      rw [if_neg hln,if_neg hln]
    exact step ops.size (by omega) (Nat.le_refl _)
   have insertH:∀ b,aq (tD ops I s L (fun i=>(listed.setIfInBounds j true).getD i false) ops.size).H b=if (I j).c.lv b=true∧b < s.H.length + L then wv (I j) b else aq (tD ops I s L (fun i=>listed.getD i false) ops.size).H b:=by
    intro b
    have base:∀ k,k≤j→aq (tD ops I s L (fun i=>(listed.setIfInBounds j true).getD i false) k).H b=aq (tD ops I s L (fun i=>listed.getD i false) k).H b:=fun k hk =>
     iz _ _ b k fun i hi _=>by rw [hlist,if_neg (by omega)]
    have step:∀ n,j + 1≤n→n≤ops.size→aq (tD ops I s L (fun i=>(listed.setIfInBounds j true).getD i false) n).H b=if (I j).c.lv b=true∧b < s.H.length + L then wv (I j) b else aq (tD ops I s L (fun i=>listed.getD i false) n).H b:=by
     intro n hn hns
     induction n with
     | zero=>omega
     | succ n ihn =>
      by_cases hnj:n=j
      ·subst hnj
       rw [eL,eL,base n (Nat.le_refl _),hlist,if_pos rfl,hnl']
       by_cases hdt:(I n).c.lv b=true∧b < s.H.length + L
       ·rw [if_pos ⟨rfl,hdt⟩,if_pos hdt]
       rw [if_neg (fun hh=>hdt hh.2),if_neg hdt,if_neg (fun hh=>by cases hh.1)]
      rw [eL,eL,ihn (by omega) (by omega),hlist,if_neg hnj]
      by_cases hln:listed.getD n false=true∧(I n).c.lv b=true∧b < s.H.length + L
      ·rw [if_pos hln,if_pos hln]
       have hap:=(ap1 (high n (by omega) (by omega) hln.1)).2
       by_cases hdt:(I j).c.lv b=true
       ·exact absurd ⟨hdt,fe.rL hln.2.1⟩ (j6 hap b).2
       rw [if_neg (fun hh=>hdt hh.1)]
      rw [if_neg hln,if_neg hln]
    exact step ops.size (by omega) (Nat.le_refl _)
   have hcnt' : (List.range ops.size).countP (fun i=>!(listed.setIfInBounds j true).getD i true)=fuel:=by
    have hsplit:∀ (l:List Nat),l.Nodup→j∈l→l.countP (fun i=>!listed.getD i true)=l.countP (fun i=>!(listed.setIfInBounds j true).getD i true) + 1:=by
     intro l
     induction l with
     | nil=>intro _ h; simp at h
     | cons x r ihl =>
      intro hnd hmem
      have hx:∀ i,i ≠ j→(listed.setIfInBounds j true).getD i true=listed.getD i true:=by
       intro i hi
       simp only [Array.getD_eq_getD_getElem?]
       rw [Array.getElem?_setIfInBounds_ne (Ne.symm hi)]
      rw [List.nodup_cons] at hnd
      by_cases hxj:x=j
      ·subst hxj
       have e1:(listed.setIfInBounds x true).getD x true=true:=by
        simp only [Array.getD_eq_getD_getElem?]
        rw [Array.getElem?_setIfInBounds_self_of_lt hjls]; rfl
       rw [List.countP_cons,List.countP_cons,hnl,e1]
       have:r.countP (fun i=>!listed.getD i true)=r.countP (fun i=>!(listed.setIfInBounds x true).getD i true):=by
        apply List.countP_congr
        intro i hi
        rw [hx i (fun e=>hnd.1 (e ▸ hi))]
       simp only [this,Bool.not_false,Bool.not_true,if_true,Bool.false_eq_true,if_false,Nat.add_zero]
      rw [List.countP_cons,List.countP_cons,hx x hxj,ihl hnd.2 (by rcases List.mem_cons.1 hmem with h | h; exact absurd h.symm hxj; exact h)]
      omega
    have:=hsplit (List.range ops.size) List.nodup_range (by simpa using hjlt)
    omega
   have hcl' : ∀ i oi,(listed.setIfInBounds j true).getD i false=true→ops[i]? = some oi→∀ e∈oi.after.toList,Region.binds .any e=true→(listed.setIfInBounds j true).getD e.on false=true:=by
    intro i oi hi hoi e he hb
    rw [hlist] at hi ⊢
    by_cases hij:i=j
    ·subst hij
     rw [hoj] at hoi; cases hoi
     rw [hpre e he hb]; simp
    rw [if_neg hij] at hi
    rw [hcl i oi hi hoi e he hb]; simp
   have hTlen:(tD ops I s L (fun i=>listed.getD i false) ops.size).H.length=s.H.length + L:=kx _ _
   have next:∀ (m' : Map) (a' : Act) (w' : World),(∃ s2:St,Rel C m' s2 a'.tmps w'∧(∀ t,s2.get t=if o.dst=some t then (I j).av else (tD ops I s L (fun i=>listed.getD i false) ops.size).get t) ∧
      (s2.H=l8 (I j) (tD ops I s L (fun i=>listed.getD i false) ops.size).H)∧s2.n=s.n)→a'.defers=ds→ns P .any ops Q fuel (listed.setIfInBounds j true) a' w':=by
    rintro m' a' w' ⟨s2,R2,e1,e2,e3⟩ hd'
    refine ih _ m' a' w' (by simpa using hsz) hcnt' hcl' (R2.congr (fun t=>?_) ?_ ?_) hd'
    ·rw [insertGet,e1]
    ·rw [e2]
     refine jq (by rw [kx,td,hTlen]) fun b=>?_
     rw [insertH,qB,hTlen]
    rw [vm,e3]
   have hgd:∀ b,bt ops (cS ops I s j) o=some b→bt ops (tD ops I s L (fun i=>listed.getD i false) ops.size) o=some b:=by
    intro b h
    unfold bt at h ⊢
    split at h
    ·exact h
    rename_i g want e
    split at h
    ·rename_i d hdd
     have:(tD ops I s L (fun i=>listed.getD i false) ops.size).get d=(cS ops I s j).get d:=agree d (by
      unfold Oper.looksAt
      rw [e]
      simp [hdd])
     rw [this]
     exact h
    cases h
   have hsn:(tD ops I s L (fun i=>listed.getD i false) ops.size).n=s.n:=vm _ _
   obtain ⟨_,fd,fh⟩:=hfact j o hoj
   unfold HQ
   rw [hoj]
   simp only
   rcases fh with ⟨hg,hIj⟩ | ⟨hg,hloc⟩
   ·rw [cW (P:=P) R (hgd _ hg)]
    simp only [Bool.false_eq_true,if_false]
    refine next m _ w ⟨_,R.put (fun t ht=>by rw [hsn]; exact fd t ht) (.p _ _ ou),fun t=>?_,?_,?_⟩ (by rw [put_defers]; exact hd)
    ·rw [eN,hIj]
    ·rw [St.gi,hIj]; rfl
    rw [St.jR,hsn]
   rw [cW (P:=P) R (hgd _ hg)]
   simp only [if_true]
   left
   have hag:fq o (cS ops I s j) (tD ops I s L (fun i=>listed.getD i false) ops.size):=by
    intro x hx
    cases x with
    | tmp t =>
     simp only [St.ev]
     refine agree t ?_
     unfold Oper.looksAt
     rw [List.mem_append]
     left
     rw [List.mem_filterMap]
     exact ⟨.tmp t,by simpa using hx,rfl⟩
    | _=>rfl
   have hn2:(tD ops I s L (fun i=>listed.getD i false) ops.size).n=(cS ops I s j).n:=by rw [vm,Dt]
   have fin:eZ P o (tD ops I s L (fun i=>listed.getD i false) ops.size) (I j).av (l8 (I j) (tD ops I s L (fun i=>listed.getD i false) ops.size).H) →
     Bw P o a w (ns P .any ops Q fuel (listed.setIfInBounds j true)) Q:=by
    intro hdo
    refine hdo C m a w _ Q R fun v m' w' R' hv=>?_
    refine next m' _ w' ⟨_,R'.put (fun t ht=>by simp only; rw [hsn]; exact fd t ht) hv,fun t=>?_,?_,?_⟩ (by rw [put_defers]; exact hd)
    ·rw [eN]; rfl
    ·rw [St.gi]
    rw [St.jR]; exact hsn
   have fresh:∀ k,(I j).c.mk=some k→(I j).c.mR k=true→(cS ops I s j).H.length=k→(tD ops I s L (fun i=>listed.getD i false) ops.size).H[k]? = some .dead∧(∀ t,bm k ((tD ops I s L (fun i=>listed.getD i false) ops.size).get t))∧(∀ (b:Nat) (c:List AV),(tD ops I s L (fun i=>listed.getD i false) ops.size).H[b]? = some (aM.own c)→∀ (q:Nat) (h:q < c.length),bm k c[q])∧∀ (b i j' : Nat),(tD ops I s L (fun i=>listed.getD i false) ops.size).H[b]? = some (aM.dt i j')→j' ≠ k:=by
    intro k hc htch hlk
    obtain ⟨k1,k2⟩:=hκ0 j k hjlt hc
    have hD:∀ i,i < ops.size→listed.getD i false=true→i ≠ j∧((dt ops).getD i 0).testBit j=false:=by
     intro i hi hli
     refine ⟨fun e=>by (subst e; rw [hnl'] at hli; cases hli),?_⟩
     rw [Bool.eq_false_iff]
     intro hb
     have:=hanc' i hli ops[i] (Array.getElem?_eq_getElem hi) j hb
     rw [this] at hnl'; cases hnl'
    have hno:∀ n,n≤ops.size→(∀ t,bm k ((tD ops I s L (fun i=>listed.getD i false) n).get t))∧(∀ (b:Nat) (c:List AV),aq (tD ops I s L (fun i=>listed.getD i false) n).H b=aM.own c→∀ (q:Nat) (h:q < c.length),bm k c[q])∧∀ (b i j' : Nat),aq (tD ops I s L (fun i=>listed.getD i false) n).H b=aM.dt i j'→j' ≠ k:=by
     intro n
     induction n with
     | zero =>
      intro _
      refine ⟨(hs0 k k1).1,fun b c hb=>?_,fun b i j' hb=>?_⟩
      ·simp only [tD] at hb
       by_cases hlt:b < s.H.length
       ·rw [aF hlt] at hb
        exact (hs0 k k1).2.1 b c (bh hb)
       rw [aX (by omega),lF] at hb
       cases hb
      simp only [tD] at hb
      by_cases hlt:b < s.H.length
      ·rw [aF hlt] at hb
       exact (hs0 k k1).2.2 b i j' (bW hb (by simp))
      rw [aX (by omega),lF] at hb
      cases hb
     | succ n ihn =>
      intro hn
      obtain ⟨i1,i2,i3⟩:=ihn (by omega)
      refine ⟨fun t=>?_,fun b c hb=>?_,fun b i j' hb=>?_⟩
      ·rw [hU]
       by_cases hh:listed.getD n false=true∧(bK ops n).dst=some t
       ·rw [if_pos hh]
        obtain ⟨d1,d2⟩:=hD n (by omega) hh.1
        exact (hnr j k hjlt hc n (by omega) d1 d2).1
       rw [if_neg hh]; exact i1 t
      ·rw [eL] at hb
       by_cases hh:listed.getD n false=true∧(I n).c.lv b=true∧b < s.H.length + L
       ·rw [if_pos hh] at hb
        obtain ⟨d1,d2⟩:=hD n (by omega) hh.1
        refine (hnr j k hjlt hc n (by omega) d1 d2).2 c ?_
        rcases w8 (I n) b with h1 | h1
        ·rw [hb] at h1; cases h1
        rw [hb] at h1; exact h1
       rw [if_neg hh] at hb; exact i2 b c hb
      rw [eL] at hb
      by_cases hh:listed.getD n false=true∧(I n).c.lv b=true∧b < s.H.length + L
      ·rw [if_pos hh] at hb
       rcases w8 (I n) b with h1 | h1
       ·rw [hb] at h1; cases h1
       rw [hb] at h1; exact absurd h1 (hna n (by omega) i j')
      rw [if_neg hh] at hb; exact i3 b i j' hb
    obtain ⟨n1,n2,n3⟩:=hno ops.size (Nat.le_refl _)
    have hkl:k < (tD ops I s L (fun i=>listed.getD i false) ops.size).H.length:=by rw [hTlen]; exact k2
    have hdead:aq (tD ops I s L (fun i=>listed.getD i false) ops.size).H k = .dead:=by
     rw [agreeH k htch]
     exact fS (by omega)
    exact ⟨mP hkl hdead,n1,fun b c hb=>n2 b c (jj hb),fun b i j' hb=>n3 b i j' (jj hb)⟩
   apply fin
   unfold ub at hloc
   unfold l8
   cases hc:(I j).c with
   | f=>rw [hc] at hloc; exact hloc _ hn2 hag
   | ld k=>rw [hc] at hloc; exact hloc.2 _ hn2 hag (agreeH k (by rw [hc]; simp [fe.mR]))
   | st k=>rw [hc] at hloc; exact hloc.2 _ hn2 hag (agreeH k (by rw [hc]; simp [fe.mR]))
   | ms l=>rw [hc] at hloc; exact hloc.2 _ hn2 hag fun p hp=>⟨by have h1:=hloc.1.1 p hp; have h2:=cK (ops:=ops) (I:=I) (s:=s) (show j≤ops.size by omega); rw [hTlen]; omega,agreeH p.1 (by rw [hc]; simp only [fe.mR]; exact List.any_eq_true.2 ⟨p,hp,by simp⟩)⟩
   | nw k =>
    rw [hc] at hloc
    obtain ⟨a1,a2,a3,a4⟩:=fresh k (by rw [hc]; rfl) (by rw [hc]; simp [fe.mR]) hloc.1.symm
    exact hloc.2 _ hn2 hag a1 a2 a3 a4
   | ap q k =>
    rw [hc] at hloc
    obtain ⟨a1,a2,a3,a4⟩:=fresh k (by rw [hc]; rfl) (by rw [hc]; simp [fe.mR]) hloc.1.2.symm
    exact hloc.2 _ hn2 hag (agreeH q (by rw [hc]; simp [fe.mR])) a1 a2 a3 a4
 refine key ops.size (Array.replicate ops.size false) m a w (by simp) ?_ ?_ ?_ hd
 ·have:∀ i∈List.range ops.size,(!(Array.replicate ops.size false).getD i true)=true:=by
   intro i hi
   have hi:i < ops.size:=by simpa using hi
   simp [Array.getD_eq_getD_getElem?,hi]
  rw [List.countP_eq_length.2 this]
  simp
 ·intro j o hj
  exfalso
  simp only [Array.getD_eq_getD_getElem?,Array.getElem?_replicate] at hj
  split at hj<;>simp at hj
 refine (R.pad L).congr (fun t=>?_) ?_ (vm _ _)
 ·refine mB _ t 0 ops.size (Nat.zero_le _) fun i _ hi h=>?_
  simp only [Array.getD_eq_getD_getElem?,Array.getElem?_replicate] at h
  split at h<;>simp at h
 refine jq (by rw [kx]; simp) fun b=>?_
 refine kP _ b 0 ops.size (Nat.zero_le _) fun i _ hi h=>?_
 simp only [Array.getD_eq_getD_getElem?,Array.getElem?_replicate] at h
 split at h<;>simp at h
end
section
variable {P:Program} {T:TypeId→Option TI}
def jW:List AV→Bool
 | []=>true
 | .p _ :: r=>jW r
 | _=>false
theorem oo (H H2:aw):∀ l:List AV,jW l=true→jc H2 l=jc H l
 | [],_=>rfl
 | x :: r,h=>by
  cases x with
  | p v =>
   have ih:=oo H H2 r h
   simp only [jc,uT,ih]
  | _=>simp [jW] at h
def jd (s:St):Op→Option fe
 | .load _ x=>match s.ev x with | .ptr k _=>some (.ld k) | .p (.ptr _)=>some .f | _=>none
 | .store _ x _=>match s.ev x with | .ptr k _=>some (.st k) | _=>none
 | .alloc _=>some (.nw s.H.length)
 | .call { callee:=.builtin .append,args,.. }=>match args.toList.map s.ev with | [.sl k _ _,.p _]=>some (.ap k s.H.length) | _=>none
 | .lookup _ x _ _=>match s.ev x with | .mptr k=>some (.ld k) | _=>none
 | .makeFunc _ _ caps=>bif jW (caps.toList.map s.ev) then some .f else none
 | op=>bif jx op then none else some .f
def eU (c:fe) (H:aw):aM:=
 match c with
 | .st k=>aq H k
 | .nw k=>aq H k
 | .ap _ k=>aq H k
 | _=>.dead
theorem sJ (κ:Nat) (v:Value):bm κ (cv v):=by
 unfold cv; split<;>constructor
theorem tR {ti:TI} {H:aw} {k lo len:Nat} {v:PV} {r:OV} (h:gA T ti H (.sl k lo len) (.p v)=some r) :
  ∃ (cc:List AV) (xs:List PV) (V:Prop),aq H k = .own cc∧∀ H2:aw,aq H2 k = .own cc→gA T ti H2 (.sl k lo len) (.p v)=some ⟨V,.sl H2.length 0 (len + xs.length),aE H2 k .dead++[.own ((cc.drop lo).take len++xs.map .p)]⟩:=by
 unfold gA at h ⊢
 cases hk:ti.kind with
 | slice e =>
  rw [hk] at h
  simp only at h ⊢
  cases hte:T e with
  | none=>rw [hte] at h; cases h
  | some te =>
   rw [hte] at h
   simp only at h ⊢
   cases hg:aq H k with
   | dead=>rw [hg] at h; cases v<;>simp [cX] at h
   | mp _ _ _=>rw [hg] at h; cases v<;>simp [cX] at h
   | dt _ _=>rw [hg] at h; cases v<;>simp [cX] at h
   | lp _=>rw [hg] at h; cases v<;>simp [cX] at h
   | fro d=>rw [hg] at h; cases v<;>simp [cX] at h
   | own cc =>
    cases v with
    | list l=>exact ⟨cc,l,_,rfl,fun H2 h2=>by simp only [cX,h2,List.length_map]; rfl⟩
    | nn l=>exact ⟨cc,l,_,rfl,fun H2 h2=>by simp only [cX,h2,List.length_map]; rfl⟩
    | nil=>exact ⟨cc,[],_,rfl,fun H2 h2=>by simp only [cX,h2,List.length_nil,List.map_nil]; rfl⟩
    | _=>rw [hg] at h; simp [cX] at h
 | _=>rw [hk] at h; cases h
theorem sX {ti:TI} {ok:Bool} {H:aw} {k:Nat} {y:AV} {r:OV} (h:fJ T ti ok H (.mptr k) y=some r):k < H.length∧∀ H2:aw,aq H2 k=aq H k→fJ T ti ok H2 (.mptr k) y=some { r with H:=H2 }:=by
 unfold fJ at h ⊢
 split at h
 ·split at h
  ·simp only at h
   split at h
   ·rename_i kk d v zp hg hz
    simp only [Option.some.injEq] at h
    subst h
    refine ⟨(List.getElem?_eq_some_iff.1 (bW hg (by simp))).1,fun H2 h2=>?_⟩
    simp_all
   cases h
  cases h
 cases h
theorem Ad (hT:∀ t ti,T t=some ti→bp P t=some ti) {o:Oper} {s:St} {r:OV} {c:fe} (hc:jd s o.op=some c) (h:bU T s o.op=some r) (hvc:r.vc) :
  ub P o s ⟨c,r.av,eU c r.H,false⟩∧r.H=j8 ⟨c,r.av,eU c r.H,false⟩ s.H:=by
 have free:jx o.op=false→c = .f→ub P o s ⟨c,r.av,eU c r.H,false⟩∧r.H=j8 ⟨c,r.av,eU c r.H,false⟩ s.H:=by
  rintro hf rfl
  refine ⟨?_,(jo hf h).1⟩
  intro s2 hn ha
  have h1:=(jo hf h).2 s2.H
  have:=lO (T:=T) (s:={ s with H:=s2.H }) (s2:=s2) (op:=o.op) (fun x hx=>by rw [ha x hx]; cases x<;>rfl) rfl
  rw [h1] at this
  exact (dO hT this hvc).wp
 generalize hop:o.op=op at *
 cases op with
 | makeFunc fn first caps =>
  simp only [jd] at hc
  cases hp:jW (caps.toList.map s.ev) with
  | false=>rw [hp] at hc; cases hc
  | true =>
   rw [hp] at hc
   simp only [cond_true,Option.some.injEq] at hc
   subst hc
   have hr:r.H=s.H:=by
    cases fn with
    | func f =>
     simp only [bU] at h
     cases hf:first.isEmpty<;>rw [hf] at h
     ·cases h
     exact mQ h
    | _=>simp [bU] at h
   refine ⟨?_,hr⟩
   intro s2 hn ha
   have h2:bU T s2 o.op=some { r with H:=s2.H }:=by
    rw [hop]
    have hm:caps.toList.map s2.ev=caps.toList.map s.ev:=List.map_congr_left fun x hx=>ha x (by rw [hop]; simp only [Op.operands]; simp; right; simpa using hx)
    cases fn with
    | func f =>
     simp only [bU] at h ⊢
     cases hf:first.isEmpty<;>rw [hf] at h
     ·cases h
     simp only [cond_true] at h ⊢
     rw [hm]
     unfold eH at h ⊢
     rw [oo s.H s2.H _ hp]
     cases hcp:jc s.H (caps.toList.map s.ev) with
     | none=>rw [hcp] at h; cases h
     | some x=>rw [hcp] at h; obtain ⟨p1,l1⟩:=x; simp only [Option.some.injEq] at h ⊢; subst h; rfl
    | _=>simp [bU] at h
   exact (dO hT h2 hvc).wp
 | lookup t x y ok =>
  simp only [jd] at hc
  simp only [bU] at h
  cases hti:T t with
  | none=>rw [hti] at h; cases h
  | some ti =>
   rw [hti] at h
   simp only at h
   have hx:∀ s2:St,fq o s s2→s2.ev x=s.ev x:=fun s2 ha=>ha x (by rw [hop]; simp [Op.operands])
   have hy:∀ s2:St,fq o s s2→s2.ev y=s.ev y:=fun s2 ha=>ha y (by rw [hop]; simp [Op.operands])
   cases hev:s.ev x with
   | mptr k =>
    rw [hev] at hc h
    simp only [Option.some.injEq] at hc
    subst hc
    obtain ⟨hkl,hloc⟩:=sX h
    refine ⟨⟨hkl,fun s2 hn ha hH=>?_⟩,qK h⟩
    have h2:bU T s2 o.op=some { r with H:=s2.H }:=by
     rw [hop]
     simp only [bU,hti,hx s2 ha,hy s2 ha,hev]
     exact hloc s2.H hH
    exact (dO hT h2 hvc).wp
   | _=>rw [hev] at hc; cases hc
 | load t x =>
  simp only [jd] at hc
  simp only [bU] at h
  cases hti:T t with
  | none=>rw [hti] at h; cases h
  | some ti =>
   rw [hti] at h
   simp only at h
   have hx:∀ s2:St,fq o s s2→s2.ev x=s.ev x:=fun s2 ha=>ha x (by rw [hop]; simp [Op.operands])
   cases hev:s.ev x with
   | ptr k i =>
    rw [hev] at hc h
    simp only [Option.some.injEq] at hc
    subst hc
    have hkl:k < s.H.length:=by
     simp only [iM] at h
     cases hg:aq s.H k with
     | dead=>rw [hg] at h; cases h
     | mp _ _ _=>rw [hg] at h; cases h
     | dt _ _=>rw [hg] at h; cases h
     | lp _=>rw [hg] at h; cases h
     | own d=>exact (List.getElem?_eq_some_iff.1 (bh hg)).1
     | fro d=>exact (List.getElem?_eq_some_iff.1 (fX hg)).1
    refine ⟨⟨hkl,fun s2 hn ha hH=>?_⟩,se h⟩
    have h2:bU T s2 o.op=some { r with H:=s2.H }:=by
     rw [hop]
     simp only [bU,hti,hx s2 ha,hev]
     simp only [iM] at h ⊢
     rw [hH]
     cases hg:aq s.H k with
     | dead=>rw [hg] at h; cases h
     | mp _ _ _=>rw [hg] at h; cases h
     | dt _ _=>rw [hg] at h; cases h
     | lp _=>rw [hg] at h; cases h
     | own d=>rw [hg] at h; cases hr:c5 ti.kind<;>rw [hr] at h<;>simp only [cond_true,cond_false,Option.some.injEq] at h ⊢<;>subst h<;>rfl
     | fro d=>rw [hg] at h; cases hr:c5 ti.kind<;>rw [hr] at h<;>simp only [cond_true,cond_false,Option.some.injEq] at h ⊢<;>subst h<;>rfl
    exact (dO hT h2 hvc).wp
   | p v =>
    rw [hev] at hc h
    cases v with
    | ptr d =>
     simp only [Option.some.injEq] at hc
     subst hc
     refine ⟨?_,se h⟩
     intro s2 hn ha
     have h2:bU T s2 o.op=some { r with H:=s2.H }:=by
      rw [hop]
      simp only [bU,hti,hx s2 ha,hev]
      simp only [iM] at h ⊢
      cases hr:c5 ti.kind<;>rw [hr] at h<;>simp only [cond_true,cond_false,Option.some.injEq] at h ⊢<;>subst h<;>rfl
     exact (dO hT h2 hvc).wp
    | _=>cases hc
   | _=>rw [hev] at hc; cases hc
 | store t x v =>
  simp only [jd] at hc
  simp only [bU] at h
  cases hti:T t with
  | none=>rw [hti] at h; cases h
  | some ti =>
   rw [hti] at h
   simp only at h
   have hx:∀ s2:St,fq o s s2→s2.ev x=s.ev x:=fun s2 ha=>ha x (by rw [hop]; simp [Op.operands])
   have hv:∀ s2:St,fq o s s2→s2.ev v=s.ev v:=fun s2 ha=>ha v (by rw [hop]; simp [Op.operands])
   cases hev:s.ev x with
   | ptr k i =>
    rw [hev] at hc h
    simp only [Option.some.injEq] at hc
    subst hc
    simp only [jV] at h
    cases hg:aq s.H k with
    | dead=>rw [hg] at h; cases h
    | mp _ _ _=>rw [hg] at h; cases h
    | dt _ _=>rw [hg] at h; cases h
    | lp _=>rw [hg] at h; cases h
    | fro d=>rw [hg] at h; cases h
    | own d =>
     rw [hg] at h
     simp only [Option.some.injEq] at h
     have hkl:k < s.H.length:=(List.getElem?_eq_some_iff.1 (bh hg)).1
     have hb:aq r.H k = .own (iD d i (s.ev v).cells):=by
      rw [← h]; simp only; rw [fT _ _ _ hkl]
     refine ⟨⟨hkl,fun s2 hn ha hH=>?_⟩,?_⟩
     ·have h2:bU T s2 o.op=some { r with H:=aE s2.H k (.own (iD d i (s.ev v).cells)) }:=by
       rw [hop]
       simp only [bU,hti,hx s2 ha,hv s2 ha,hev,jV,hH,hg]
       rw [← h]
      simp only [eU]
      rw [hb]
      exact (dO hT h2 hvc).wp
     simp only [j8,eU]
     rw [hb,← h]
   | p v=>rw [hev] at hc; cases hc
   | dead=>rw [hev] at hc; cases hc
   | sl _ _ _=>rw [hev] at hc; cases hc
   | agg _=>rw [hev] at hc; cases hc
   | tup _=>rw [hev] at hc; cases hc
   | cl _ _=>rw [hev] at hc; cases hc
   | lH _=>rw [hev] at hc; cases hc
   | sls _ _ _ _=>rw [hev] at hc; cases hc
   | mptr _=>rw [hev] at hc; cases hc
   | yv _ _ _=>rw [hev] at hc; cases hc
 | alloc t =>
  simp only [jd,Option.some.injEq] at hc
  subst hc
  simp only [bU] at h
  cases hti:T t with
  | none=>rw [hti] at h; cases h
  | some ti =>
   rw [hti] at h
   simp only [Option.some.injEq] at h
   have hb:aq r.H s.H.length = .own (ti.zero.map cv):=by
    rw [← h]; simp only [gD]; rw [aX (Nat.le_refl _),Nat.sub_self]; rfl
   refine ⟨⟨rfl,fun s2 hn ha hd n1 n2 n3=>?_⟩,?_⟩
   ·simp only [eU]
    rw [hb]
    have hav:r.av = .ptr s.H.length 0:=by rw [← h]; rfl
    rw [hav]
    have hvc' : (gD ti s2.H).vc:=by
     have:(gD ti s.H).vc:=by rw [h]; exact hvc
     exact this
    refine yV.wp fun C m a w R=>?_
    obtain ⟨v,w',m',hy,R',hv⟩:=mN hT R (o:=o) hop hti hvc'
    obtain ⟨g1,g2,_⟩:=Rel.move R (b:=.own (ti.zero.map cv)) R' hd n3 (fun _ _ h=>by cases h) n1 n2 fun c hc i hi=>by
     cases hc
     rw [List.getElem_map]
     exact ⟨sJ _ _,sJ _ _⟩
    exact ⟨v,w',_,hy,g1,g2 0 v hv⟩
   simp only [j8,eU]
   rw [hb,← h]; rfl
 | call c' =>
  obtain ⟨callee,args,ts⟩:=c'
  have other:jd s (.call ⟨callee,args,ts⟩)=(bif jx (.call ⟨callee,args,ts⟩) then none else some .f)→ub P o s ⟨c,r.av,eU c r.H,false⟩∧r.H=j8 ⟨c,r.av,eU c r.H,false⟩ s.H:=by
   intro e
   rw [e] at hc
   cases hf:jx (.call ⟨callee,args,ts⟩) with
   | true=>rw [hf] at hc; cases hc
   | false=>rw [hf] at hc; exact free hf (by simpa using hc.symm)
  cases callee with
  | builtin b =>
   cases b with
   | append =>
    simp only [jd] at hc
    split at hc<;>simp only [Option.some.injEq,reduceCtorEq] at hc
    rename_i k lo len v hl
    subst hc
    have hev:∀ s2:St,fq o s s2→args.toList.map s2.ev=[.sl k lo len,.p v]:=by
     intro s2 ha
     rw [← hl]
     exact List.map_congr_left fun x hx=>ha x (by rw [hop]; simp [Op.operands,Call.operands]; simpa using hx)
    simp only [bU] at h
    rw [hl] at h
    obtain ⟨t,ti,hts,hti,h⟩:∃ t ti,ts.toList=[t,t]∧T t=some ti∧gA T ti s.H (.sl k lo len) (.p v)=some r:=by
     unfold cE at h
     split at h<;>simp only [reduceCtorEq] at *
     rename_i a1 a2 sv xv t t' ea e2 e3
     simp only [List.cons.injEq,and_true] at ea
     obtain ⟨rfl,rfl⟩:=ea
     cases hti:T t with
     | none=>rw [hti] at h; cases h
     | some ti =>
      rw [hti] at h
      simp only at h
      by_cases ht:t=t'
      ·rw [if_pos ht] at h; subst ht; exact ⟨t,ti,e2,hti,h⟩
      rw [if_neg ht] at h; cases h
    obtain ⟨cc,xs,V,hg,hall⟩:=tR h
    have hr:r=⟨V,.sl s.H.length 0 (len + xs.length),aE s.H k .dead++[.own ((cc.drop lo).take len++xs.map .p)]⟩:=by
     have:=hall s.H hg
     rw [h] at this
     exact Option.some.inj this
    have hkl:k < s.H.length:=(List.getElem?_eq_some_iff.1 (bh hg)).1
    have hb:aq r.H s.H.length = .own ((cc.drop lo).take len++xs.map .p):=by
     rw [hr]; simp only; rw [aX (by rw [aA]; exact Nat.le_refl _),aA,Nat.sub_self]; rfl
    have hV:V:=by rw [hr] at hvc; exact hvc
    refine ⟨⟨⟨hkl,rfl⟩,fun s2 hn ha hH hd n1 n2 n3=>?_⟩,?_⟩
    ·simp only [eU]
     rw [hb,hr]
     rw [hg] at hH
     have h2:bU T s2 o.op=some ⟨V,.sl s2.H.length 0 (len + xs.length),aE s2.H k .dead++[.own ((cc.drop lo).take len++xs.map .p)]⟩:=by
      rw [hop]
      simp only [bU]
      rw [hev s2 ha,hts]
      simp only [cE,hti,if_true]
      exact hall s2.H hH
     have hkne:k ≠ s.H.length:=by omega
     have hdd:(aE s2.H k .dead)[s.H.length]? = some .dead:=by
      rw [cm,if_neg (fun hh=>hkne hh.1.symm)]; exact hd
     refine yV.wp fun C m a w R=>?_
     obtain ⟨v',w',m',hy,R',hv⟩:=dO hT h2 hV C m a w R
     have hlen:(aE s2.H k .dead).length=s2.H.length:=aA _ _ _
     have hown:∀ (j:Nat) (c:List AV),(aE s2.H k .dead)[j]? = some (aM.own c)→s2.H[j]? = some (aM.own c):=by
      intro j c hj
      rw [cm] at hj
      by_cases e:j=k∧k < s2.H.length
      ·rw [if_pos e] at hj; cases hj
      rw [if_neg e] at hj; exact hj
     obtain ⟨g1,_,g2⟩:=Rel.move (s:={ s2 with H:=aE s2.H k .dead }) (R.kill k) (b:=.own ((cc.drop lo).take len++xs.map .p)) R' hdd (fun b i j hj=>n3 b i j (by rw [cm] at hj; by_cases e:b=k∧k < s2.H.length; (rw [if_pos e] at hj; cases hj); (rw [if_neg e] at hj; exact hj))) (fun _ _ h=>by cases h) n1 (fun j c hj=>n2 j c (hown j c hj)) fun c hc i hi=>by
      cases hc
      have hcc:=bh hH
      by_cases hlt:i < ((cc.drop lo).take len).length
      ·rw [List.getElem_append_left hlt]
       simp only [List.getElem_take,List.getElem_drop]
       have hi2:lo + i < cc.length:=by
        simp only [List.length_take,List.length_drop] at hlt; omega
       refine ⟨n2 k cc hcc _ hi2,?_⟩
       simp only [hlen]
       rcases R.blk k cc hcc with ⟨b1,_⟩ | ⟨l2,cur2,e2,_,_,_,_,_,_,b7⟩
       ·subst b1; simp at hi2
       exact (b7 _ hi2).tW (Nat.le_refl _)
      rw [List.getElem_append_right (by omega),List.getElem_map]
      exact ⟨.p _,.p _⟩
     simp only [hlen] at g1 g2 hv
     exact ⟨v',w',_,hy,g1,g2 _ _ v' hv⟩
    simp only [j8,eU]
    rw [hb,hr]
   | _=>exact other rfl
  | _=>exact other rfl
 | _=>simp only [jd] at hc; first|(simp only [jx,cond_true,cond_false,Option.some.injEq,reduceCtorEq] at hc; done)|exact free rfl (by simpa [jx] using hc.symm)
inductive X2 where
 | run (vc:Prop) (s:St) (acc:List I2)
 | stop (vc:Prop) (rest:List Oper) (s:St) (acc:List I2)
def vC (T:TypeId→Option TI) (all:Array Oper) (o:Oper) (rest:List Oper) (vc:Prop) (s:St) (acc:List I2):X2:=
 match bt all s o with
 | some true =>
  match jd s o.op,bU T s o.op with
  | some c,some r=>.run (vc∧au s o.dst∧r.vc) (after o s r) (acc++[⟨c,r.av,eU c r.H,false⟩])
  | _,_=>.stop vc (o :: rest) s acc
 | some false=>.run (vc∧au s o.dst) (s.put o.dst (.p (.tup []))) (acc++[⟨.f,.p (.tup []),.dead,false⟩])
 | none=>.stop vc (o :: rest) s acc
def mE (T:TypeId→Option TI) (all:Array Oper):List Oper→X2→X2
 | [],x=>x
 | o :: r,.run vc s acc=>mE T all r (vC T all o r vc s acc)
 | _ :: _,.stop vc rest s acc=>.stop vc rest s acc
def og (P:Program) (all:Array Oper) (rest:List Oper) (K:St→List I2→Prop) (s:St) (acc:List I2):Prop:=∃ s' xs,tB P all rest xs s s'∧K s' (acc++xs)
def BD (P:Program) (all:Array Oper) (K:St→List I2→Prop):X2→Prop
 | .run vc s acc=>vc∧K s acc
 | .stop vc rest s acc=>vc∧og P all rest K s acc
theorem n9 (all:Array Oper) (l:List Oper) (vc:Prop) (rest:List Oper) (s:St) (acc:List I2):mE T all l (.stop vc rest s acc) = .stop vc rest s acc:=by cases l<;>rfl
theorem jk (hT:∀ t ti,T t=some ti→bp P t=some ti) {all:Array Oper} {K:St→List I2→Prop} : ∀ (ops:List Oper) (vc:Prop) (s:St) (acc:List I2),BD P all K (mE T all ops (.run vc s acc))→vc∧og P all ops K s acc
 | [],vc,s,acc,h=>⟨h.1,s,[],.nil s,by rw [List.append_nil]; exact h.2⟩
 | o :: r,vc,s,acc,h=>by
  simp only [mE,vC] at h
  split at h
  ·rename_i hg
   split at h
   ·rename_i c ov hcl hov
    obtain ⟨⟨h1,h2,h3⟩,s',xs,hr,hK⟩:=jk hT r _ _ _ h
    obtain ⟨g1,g2⟩:=Ad hT hcl hov h3
    refine ⟨h1,s',_ :: xs,.op hg (cM h2) g1 (fun h=>by cases h) ?_,by rw [List.append_assoc] at hK; exact hK⟩
    rw [← g2]
    exact hr
   rw [n9] at h; exact h
  ·rename_i hg
   obtain ⟨⟨h1,h2⟩,s',xs,hr,hK⟩:=jk hT r _ _ _ h
   exact ⟨h1,s',_ :: xs,.skip hg (cM h2) hr,by rw [List.append_assoc] at hK; exact hK⟩
  rw [n9] at h; exact h
theorem fR (hT:∀ t ti,T t=some ti→bp P t=some ti) {all:Array Oper} {rest:List Oper} {K:St→List I2→Prop} {s:St} {acc:List I2} (h:BD P all K (mE T all rest (.run True s acc))):og P all rest K s acc:=
 (jk hT rest True s acc h).2
def Gp:AV→Bool
 | .p _=>true
 | _=>false
theorem od {all:Array Oper} {rest:List Oper} {K:St→List I2→Prop} {acc:List I2} {s:St} {dst:Option Tmp} {ty:TypeId} {pos:String} {aft:Array Edge} {gd:Option (Nat × Bool)} {fo:Operand} {args:Array Operand} {ts:Array TypeId} {g:FuncId} {avs:List PV} {p:Prop} {b:Bool} {r:PV}
  (hc:bL P g avs r) (hg:bt all s { dst:=dst,op:=.call { callee:=.value fo,args:=args,argTypes:=ts },type:=ty,pos:=pos,after:=aft,guard:=gd } = some true)
  (hcall:gk s fo args=some (g,avs,p,b)) (hb:(b || r.fQ)=true) (hpure:args.toList.all (fun x=>Gp (s.ev x))=true) (hd:au s dst) (hp:p) (h:og P all rest K (s.put dst (.p r)) (acc++[⟨.f,.p r,.dead,false⟩])) :
  og P all ({ dst:=dst,op:=.call { callee:=.value fo,args:=args,argTypes:=ts },type:=ty,pos:=pos,after:=aft,guard:=gd } :: rest) K s acc:=by
 obtain ⟨s',xs,hr,hK⟩:=h
 refine ⟨s',⟨.f,.p r,.dead,false⟩ :: xs,.op hg (cM hd) ?_ (fun h=>by cases h) hr,by rw [List.append_assoc] at hK; exact hK⟩
 intro s2 hn ha
 have ha' : ∀ x∈(Op.call { callee:=.value fo,args:=args,argTypes:=ts }).operands,s2.ev x=s.ev x:=ha
 simp only [Op.operands,Call.operands] at ha'
 have h1:s2.ev fo=s.ev fo:=ha' fo (by simp)
 have h2:args.toList.map s2.ev=args.toList.map s.ev:=List.map_congr_left fun x hx=>ha' x (by simp; right; simpa using hx)
 have h3:∀ l:List AV,l.all Gp=true→cq (dK s2.H) l=cq (dK s.H) l:=by
  intro l
  induction l with
  | nil=>intro _; rfl
  | cons x l ih =>
   intro hl
   simp only [List.all_cons,Bool.and_eq_true] at hl
   simp only [cq]
   rw [ih hl.2]
   cases x with
   | p v=>rfl
   | _=>simp [Gp] at hl
 have:gk s2 fo args=some (g,avs,p,b):=by
  rw [← hcall]
  unfold gk
  rw [h1,h2,h3 _ (by rw [List.all_map]; exact hpure)]
 exact mj rfl hc this hp hb
def FV (k:Nat):AV→Bool
 | .p _=>true
 | .sl j _ _=>j == k
 | _=>false
theorem oF {all:Array Oper} {K:St→List I2→Prop} {vc:Prop} {s:St} {acc:List I2} (h1:vc) (h2:K s acc):BD P all K (.run vc s acc):=⟨h1,h2⟩
theorem qE {all:Array Oper} {K:St→List I2→Prop} {vc:Prop} {r:List Oper} {s:St} {acc:List I2} (h1:vc) (h2:og P all r K s acc):BD P all K (.stop vc r s acc):=⟨h1,h2⟩
theorem ob {Q:Exit→St→Prop} {s:St} {id:Nat} {l:List Oper} (hm:P.follows .mixedOrders=true) (h:∀ K:St→List I2→Prop,(∀ s' xs,lD l.toArray xs=true→Q .normal s'→K s' xs)→og P l.toArray l K s []):Holds P (.region id l.toArray true) Q s:=by
 intro r ds C m a w R hd
 obtain ⟨s',xs,hr,hK⟩:=h (fun s' xs=>lD l.toArray xs=true∧Q .normal s') fun _ _ h1 h2=>⟨h1,h2⟩
 rw [List.nil_append] at hK
 refine jr hm ?_
 exact tF hK.1 (by simpa using hr) (R.later ⟨rfl,rfl,rfl,Nat.le_refl _,fun _ _=>rfl,Nat.le_succ _⟩) hd fun m' a' w' R' hd'=>⟨s',m',hK.2,R',hd'⟩
end
def He:=And.intro @mE.eq_1
 <| And.intro @mE.eq_2
 <| And.intro @mE.eq_3
 <| And.intro @vC.eq_1
 <| And.intro @jd.eq_1
 <| And.intro @jd.eq_2
 <| And.intro @jd.eq_3
 <| And.intro @jd.eq_4
 <| And.intro @jd.eq_5
 <| And.intro @jd.eq_6
 <| And.intro @jd.eq_7
 <| And.intro @jW.eq_1
 <| And.intro @jW.eq_2
 <| And.intro @eU.eq_1
 <| And.intro @eU.eq_2
 <| And.intro @eU.eq_3
 <| And.intro @eU.eq_4
 <| And.intro @jx.eq_1
 <| And.intro @jx.eq_2
 <| And.intro @jx.eq_3
 <| And.intro @jx.eq_4
 <| And.intro @jx.eq_5
 <| And.intro @jx.eq_6
 <| And.intro @jx.eq_7
 <| And.intro @jx.eq_8
 <| And.intro @jx.eq_9
 <| And.intro @jx.eq_10
 <| And.intro @jx.eq_11
 <| And.intro @jx.eq_12
 <| And.intro @jx.eq_13
 <| And.intro @jx.eq_14
 <| And.intro @jx.eq_15
 <| And.intro @jx.eq_16
 <| And.intro @jx.eq_17
 <| And.intro @Gp.eq_1
 <| And.intro @Gp.eq_2
 <| And.intro @FV.eq_1
 <| And.intro @FV.eq_2
 <| And.intro @FV.eq_3
 <| And.intro @cond_true.{0}
 <| @cond_false.{0}
def qa:=@GD
def qb:=@Ho
def qc:=@HE
def qd:=@GF
def qe:=@Hf
def qf:=@G0
def qh:=@CS
def qj:=@CO
def qk:=@Et
def ql:=@Bc
def qm:=@Fg
end Go.Pv
namespace Go.Proofs.YtjlmpmidchddjaaDoor
open Lean.Grind
attribute [local instance] Lean.Grind.Semiring.natCast Lean.Grind.Ring.intCast
section
variable {K:Type} [CommRing K]
def sm (f:Nat→K):Nat→K
 | 0=>0
 | n + 1=>sm f n + f n
theorem ai {f g:Nat→K} {n:Nat} (h:∀ i,i < n→f i=g i):sm f n=sm g n:=by
 induction n with
 | zero=>rfl
 | succ n ih=>rw [sm,sm,ih fun i hi=>h i (by omega),h n (by omega)]
theorem aV {f:Nat→K} {n:Nat} (h:∀ i,i < n→f i=0):sm f n=0:=by
 induction n with
 | zero=>rfl
 | succ n ih=>rw [sm,ih fun i hi=>h i (by omega),h n (by omega)]; grind
theorem jX (f g:Nat→K) (n:Nat):sm (fun i=>f i + g i) n=sm f n + sm g n:=by
 induction n with
 | zero=>simp only [sm]; grind
 | succ n ih=>simp only [sm,ih]; grind
theorem kD (f g:Nat→K) (n:Nat):sm (fun i=>f i - g i) n=sm f n - sm g n:=by
 induction n with
 | zero=>simp only [sm]; grind
 | succ n ih=>simp only [sm,ih]; grind
theorem aL (k:K) (f:Nat→K) (n:Nat):sm (fun i=>k * f i) n=k * sm f n:=by
 induction n with
 | zero=>simp only [sm]; grind
 | succ n ih=>simp only [sm,ih]; grind
theorem bH (k:K) (f:Nat→K) (n:Nat):sm (fun i=>f i * k) n=sm f n * k:=by
 induction n with
 | zero=>simp only [sm]; grind
 | succ n ih=>simp only [sm,ih]; grind
theorem aW (f:Nat→Nat→K) (n m:Nat):sm (fun i=>sm (fun j=>f i j) m) n=sm (fun j=>sm (fun i=>f i j) n) m:=by
 induction n with
 | zero=>simp only [sm]; exact (aV fun _ _=>rfl).symm
 | succ n ih=>simp only [sm,ih,jX]
theorem bc {f:Nat→K} {n i:Nat} (hi:i < n) (h:∀ j,j < n→j ≠ i→f j=0):sm f n=f i:=by
 induction n with
 | zero=>omega
 | succ n ih =>
  rw [sm]
  by_cases e:i=n
  ·subst e
   rw [aV fun j hj=>h j (by omega) (by omega)]; grind
  rw [ih (by omega) fun j hj=>h j (by omega),h n (by omega) (by omega)]; grind
theorem dN (k:K) (n:Nat):sm (fun _=>k) n=(n:K) * k:=by
 induction n with
 | zero=>simp only [sm]; grind
 | succ n ih=>simp only [sm,ih]; grind
def sl (l:List Nat) (f:Nat→K):K:=l.foldr (fun x r=>f x + r) 0
theorem ck (x:Nat) (l:List Nat) (f:Nat→K):sl (x :: l) f=f x + sl l f:=rfl
theorem Fc (l l' : List Nat) (f:Nat→K):sl (l++l') f=sl l f + sl l' f:=by
 induction l with
 | nil=>simp only [List.nil_append,sl,List.foldr_nil]; grind
 | cons x l ih=>simp only [List.cons_append,ck,ih]; grind
theorem cr (f:Nat→K) (n:Nat):sl (List.range n) f=sm f n:=by
 induction n with
 | zero=>rfl
 | succ n ih=>rw [List.range_succ,Fc,ih,sm,ck]; simp only [sl,List.foldr_nil]; grind
theorem C0 {l l' : List Nat} (h:l.Perm l') (f:Nat→K):sl l f=sl l' f:=by
 induction h with
 | nil=>rfl
 | cons x _ ih=>rw [ck,ck,ih]
 | swap x y l=>simp only [ck]; grind
 | trans _ _ h1 h2=>rw [h1,h2]
theorem EN (l:List Nat) (σ:Nat→Nat) (f:Nat→K):sl (l.map σ) f=sl l fun x=>f (σ x):=by
 induction l with
 | nil=>rfl
 | cons x l ih=>rw [List.map_cons,ck,ck,ih]
theorem ep:∀ {l l' : List Nat},l.Nodup→(∀ x∈l,x∈l')→l'.length≤l.length→l.Perm l'
 | [],l',_,_,h=>by
  have:l' = []:=List.length_eq_zero_iff.1 (by simpa using h)
  rw [this]
 | x :: l,l',h1,h2,h3=>by
  obtain ⟨h1a,h1b⟩:=List.nodup_cons.1 h1
  have hx:x∈l':=h2 x (by simp)
  have hp:=List.perm_cons_erase hx
  refine (List.Perm.cons x (ep h1b (fun y hy=>?_) ?_)).trans hp.symm
  ·have hne:y ≠ x:=fun e=>h1a (e ▸ hy)
   exact (List.mem_erase_of_ne hne).2 (h2 y (by simp [hy]))
  rw [List.length_erase_of_mem hx]
  simp at h3; omega
theorem oA {σ:Nat→Nat} {n:Nat} (h1:∀ i,i < n→σ i < n) (h2:∀ i j,i < n→j < n→σ i=σ j→i=j) (f:Nat→K):sm (fun i=>f (σ i)) n=sm f n:=by
 rw [← cr,← cr,← EN]
 refine C0 (ep ?_ (fun x hx=>?_) (by simp)) f
 ·rw [List.nodup_iff_pairwise_ne,List.pairwise_map]
  refine (List.nodup_iff_pairwise_ne.1 (List.nodup_range (n:=n))).imp_of_mem fun {a b} ha hb hab e=>hab (h2 a b (List.mem_range.1 ha) (List.mem_range.1 hb) e)
 obtain ⟨i,hi,rfl⟩:=List.mem_map.1 hx
 exact List.mem_range.2 (h1 i (List.mem_range.1 hi))
def my (K:Type) [CommRing K]:Prop:=(∀ a:K,a ≠ 0→∃ b,a * b=1)∧(1:K) ≠ 0
theorem my.mul {K:Type} [CommRing K] (h:my K) {a b:K} (hab:a * b=0):a=0∨b=0:=by
 by_cases ha:a=0
 ·exact .inl ha
 obtain ⟨c,hc⟩:=h.1 a ha
 exact .inr (by grind)
theorem w5 (F:my K):∀ (r:Nat) (A:Nat→Nat→K),∃ x:Nat→K,(∃ j,j≤r∧x j ≠ 0)∧∀ i,i < r→sm (fun j=>A i j * x j) (r + 1)=0
 | 0,A=>⟨fun _=>1,⟨0,Nat.le_refl _,F.2⟩,fun i hi=>absurd hi (Nat.not_lt_zero _)⟩
 | r + 1,A=>by
  by_cases h:∃ i0,i0 < r + 1∧A i0 (r + 1) ≠ 0
  ·obtain ⟨i0,h1,h2⟩:=h
   obtain ⟨b,hb⟩:=F.1 _ h2
   obtain ⟨x,⟨j0,hj0,hx0⟩,hx⟩:=w5 F r fun i j=>A (if i < i0 then i else i + 1) j - A (if i < i0 then i else i + 1) (r + 1) * b * A i0 j
   obtain ⟨y,hy⟩:∃ y,y = -b * sm (fun j=>A i0 j * x j) (r + 1):=⟨_,rfl⟩
   refine ⟨fun j=>if j=r + 1 then y else x j,⟨j0,by omega,by show (if j0=r + 1 then y else x j0) ≠ 0; rw [if_neg (by omega)]; exact hx0⟩,fun i hi=>?_⟩
   have e1:∀ i,sm (fun j=>A i j * (if j=r + 1 then y else x j)) (r + 1)=sm (fun j=>A i j * x j) (r + 1):=fun i=>ai fun j hj=>by rw [if_neg (by omega)]
   rw [sm,e1]
   show _ + A i (r + 1) * (if r + 1=r + 1 then y else x (r + 1))=0
   rw [if_pos rfl]
   by_cases e:i=i0
   ·subst e
    rw [hy]; grind
   have h3:∃ i',i' < r∧(if i' < i0 then i' else i' + 1)=i:=by
    by_cases h4:i < i0
    ·exact ⟨i,by omega,if_pos h4⟩
    exact ⟨i - 1,by omega,by rw [if_neg (by omega)]; omega⟩
   obtain ⟨i',h5,h6⟩:=h3
   have h7:=hx i' h5
   rw [h6] at h7
   have e2:sm (fun j=>(A i j - A i (r + 1) * b * A i0 j) * x j) (r + 1)=sm (fun j=>A i j * x j) (r + 1) - A i (r + 1) * b * sm (fun j=>A i0 j * x j) (r + 1):=by
    rw [← aL,← kD]
    exact ai fun j _=>by grind
   rw [e2] at h7
   rw [hy]; grind
  refine ⟨fun j=>if j=r + 1 then 1 else 0,⟨r + 1,Nat.le_refl _,by show (if r + 1=r + 1 then (1:K) else 0) ≠ 0; rw [if_pos rfl]; exact F.2⟩,fun i hi=>?_⟩
  have h0:A i (r + 1)=0:=Classical.byContradiction fun hc=>h ⟨i,hi,hc⟩
  rw [sm,aV fun j hj=>by show A i j * (if j=r + 1 then 1 else 0)=0; rw [if_neg (by omega)]; grind,h0]
  grind
def iQ (y:Nat→Nat→K) (q:Nat):Prop:=∀ x:Nat→K,(∀ k,sm (fun j=>x j * y j k) q=0)→∀ j,j < q→x j=0
theorem q8 (F:my K) {y z:Nat→Nat→K} {q r:Nat} (hy:iQ y q) (h:∀ j,j < q→∃ C:Nat→K,∀ k,y j k=sm (fun i=>C i * z i k) r):q≤r:=by
 refine Nat.le_of_not_lt fun hlt=>?_
 have h' : ∀ j,∃ C:Nat→K,j < q→∀ k,y j k=sm (fun i=>C i * z i k) r:=fun j=>by
  by_cases hj:j < q
  ·obtain ⟨C,hC⟩:=h j hj; exact ⟨C,fun _=>hC⟩
  exact ⟨fun _=>0,fun hj2=>absurd hj2 hj⟩
 obtain ⟨C,hC⟩:=Classical.axiomOfChoice h'
 obtain ⟨x,⟨j0,hj0,hx0⟩,hx⟩:=w5 F r fun i j=>C j i
 refine hx0 ?_
 have h2:=hy (fun j=>if j≤r then x j else 0) (fun k=>?_) j0 (by omega)
 ·rwa [if_pos hj0] at h2
 have e0:sm (fun j=>(if j≤r then x j else 0) * y j k) q=sm (fun j=>(if j≤r then x j else 0) * y j k) (r + 1):=by
  obtain ⟨d,rfl⟩:∃ d,q=r + 1 + d:=⟨q - (r + 1),by omega⟩
  clear hy hC hlt h h'
  induction d with
  | zero=>rfl
  | succ d ih =>
   rw [show r + 1 + (d + 1)=(r + 1 + d) + 1 by omega,sm,ih,if_neg (by omega)]; grind
 rw [e0]
 have e1:sm (fun j=>(if j≤r then x j else 0) * y j k) (r + 1)=sm (fun j=>sm (fun i=>C j i * x j * z i k) r) (r + 1):=ai fun j hj=>by
  rw [if_pos (by omega),hC j (by omega) k,← aL]
  exact ai fun i _=>by grind
 rw [e1,aW]
 refine aV fun i hi=>?_
 rw [bH,hx i hi]; grind
end
section
variable {K:Type} [CommRing K]
def sW (l:List Nat):Nat→(List Nat→K)→K
 | 0,h=>h []
 | k + 1,h=>sl l fun x=>sW l k fun w=>h (x :: w)
theorem jm {l:List Nat} {f g:Nat→K} (h:∀ x∈l,f x=g x):sl l f=sl l g:=by
 induction l with
 | nil=>rfl
 | cons x l ih=>rw [ck,ck,h x (by simp),ih fun y hy=>h y (by simp [hy])]
theorem wD {l:List Nat} {f:Nat→K} (h:∀ x∈l,f x=0):sl l f=0:=by
 induction l with
 | nil=>rfl
 | cons x l ih=>rw [ck,h x (by simp),ih fun y hy=>h y (by simp [hy])]; grind
theorem AU (l:List Nat) (f g:Nat→K):sl l (fun x=>f x + g x)=sl l f + sl l g:=by
 induction l with
 | nil=>simp only [sl,List.foldr_nil]; grind
 | cons x l ih=>simp only [ck,ih]; grind
theorem Ek (k:K) (l:List Nat) (f:Nat→K):sl l (fun x=>k * f x)=k * sl l f:=by
 induction l with
 | nil=>simp only [sl,List.foldr_nil]; grind
 | cons x l ih=>simp only [ck,ih]; grind
theorem rU (l l' : List Nat) (f:Nat→Nat→K):sl l (fun x=>sl l' fun y=>f x y)=sl l' fun y=>sl l fun x=>f x y:=by
 induction l with
 | nil=>simp only [sl,List.foldr_nil]; exact (wD fun _ _=>rfl).symm
 | cons x l ih=>simp only [ck,ih,AU]
theorem eu {l:List Nat} : ∀ {k:Nat} {f g:List Nat→K},(∀ w,w.length=k→(∀ x∈w,x∈l)→f w=g w)→sW l k f=sW l k g
 | 0,f,g,h=>h [] rfl (by simp)
 | k + 1,f,g,h=>jm fun x hx=>eu fun w hw hl=>h (x :: w) (by simp [hw]) (by simp; exact ⟨hx,hl⟩)
theorem uV {l:List Nat} : ∀ {k:Nat} (f g:List Nat→K),sW l k (fun w=>f w + g w)=sW l k f + sW l k g
 | 0,f,g=>rfl
 | k + 1,f,g=>by
  simp only [sW,uV]
  rw [AU]
theorem oP {l:List Nat} (c:K):∀ {k:Nat} (f:List Nat→K),sW l k (fun w=>c * f w)=c * sW l k f
 | 0,f=>rfl
 | k + 1,f=>by
  simp only [sW,oP]
  rw [Ek]
theorem rK {l:List Nat} : ∀ {k:Nat} (h:List Nat→K),sW l (k + 1) h=sl l fun x=>sW l k fun w=>h (w++[x])
 | 0,h=>rfl
 | k + 1,h=>by
  show sl l (fun x=>sW l (k + 1) fun w=>h (x :: w))=_
  have e:∀ x,sW l (k + 1) (fun w=>h (x :: w))=sl l fun y=>sW l k fun w=>h (x :: (w++[y])):=fun x=>rK _
  rw [jm fun x _=>e x,rU]
  rfl
def iY:List Nat→List Nat
 | []=>[]
 | x :: w=>w++[x]
theorem FN {l:List Nat} {k:Nat} (h:List Nat→K):sW l (k + 1) (fun w=>h (iY w))=sW l (k + 1) h:=by
 rw [rK h]; rfl
def c7 (x:Nat) (w:List Nat):Nat:=w.countP (· == x)
def o9 (x:Nat):List Nat→K
 | []=>0
 | y :: w=>o9 x w + (c7 x w:Nat)
theorem tL (x:Nat) (u v:List Nat):c7 x (u++v)=c7 x u + c7 x v:=by simp [c7]
theorem gT (x y:Nat) (w:List Nat):c7 x (y :: w)=c7 x w + if y=x then 1 else 0:=by
 simp [c7,List.countP_cons]
theorem pY (x y:Nat):∀ w:List Nat,(o9 x (w++[y]):K)=o9 x w + (w.length:Nat) * (if y=x then 1 else 0:Nat)
 | []=>by
  simp only [List.nil_append,o9,c7,List.countP_nil,List.length_nil]; grind
 | z :: w=>by
  have h1:=pY x y w
  simp only [List.cons_append,o9,h1,tL,List.length_cons]
  have h2:c7 x [y]=if y=x then 1 else 0:=by simp [c7,List.countP_cons]
  rw [h2]
  split<;>grind
theorem zu {p:Nat} (hp:(p:K)=0) {w:List Nat} (hw:w.length=p) (hw0:0 < p) (x:Nat):(o9 x (iY w):K)=o9 x w - (c7 x w:Nat):=by
 cases w with
 | nil=>simp at hw; omega
 | cons y w =>
  simp only [iY,pY,o9,gT]
  simp only [List.length_cons] at hw
  have:((w.length:Nat):K) + 1=0:=by rw [← hp,← hw]; grind
  split<;>grind
theorem sB (x:Nat) (w:List Nat):c7 x (iY w)=c7 x w:=by
 cases w with
 | nil=>rfl
 | cons y w =>
  simp only [iY,tL,gT]
  simp [c7]
end
end Go.Proofs.YtjlmpmidchddjaaDoor
namespace Go.Proofs.YtjlmpmidchddjaaDoor
open Lean.Grind
attribute [local instance] Lean.Grind.Semiring.natCast Lean.Grind.Ring.intCast
section
variable {K:Type} [CommRing K]
theorem q7 (x:Nat) (w:List Nat):c7 x w≤w.length:=List.countP_le_length
theorem qN {x:Nat} {w:List Nat} (h:c7 x w=w.length):w=List.replicate w.length x:=by
 refine List.eq_replicate_iff.2 ⟨rfl,fun y hy=>?_⟩
 have:=List.countP_eq_length.1 h y hy
 simpa using this
theorem zE (x k:Nat):c7 x (List.replicate k x)=k:=by simp [c7,List.countP_replicate]
theorem oL {x:Nat} {w:List Nat} : 0 < c7 x w↔x∈w:=by
 unfold c7
 rw [List.countP_pos_iff]
 constructor
 ·rintro ⟨a,h1,h2⟩
  have:a=x:=by simpa using h2
  exact this ▸ h1
 intro h; exact ⟨x,h,by simp⟩
def ng (l w:List Nat):Nat:=(l.find? fun x=>decide (0 < c7 x w)).getD 0
theorem wh (l w:List Nat):ng l (iY w)=ng l w:=by unfold ng; simp only [sB]
theorem wi {l w:List Nat} (h:∃ x∈l,x∈w):ng l w∈w:=by
 unfold ng
 cases hf:l.find? fun x=>decide (0 < c7 x w) with
 | none =>
  obtain ⟨x,h1,h2⟩:=h
  have:=List.find?_eq_none.1 hf x h1
  simp only [decide_eq_true_eq] at this
  exact absurd (oL.2 h2) this
 | some x =>
  have:=List.find?_some hf
  simp only [decide_eq_true_eq] at this
  exact oL.1 this
theorem yb {l:List Nat} (hl:l.Nodup) {x:Nat} (hx:x∈l) {f:Nat→K} (h:∀ y∈l,y ≠ x→f y=0):sl l f=f x:=by
 induction l with
 | nil=>simp at hx
 | cons y l ih =>
  obtain ⟨h1,h2⟩:=List.nodup_cons.1 hl
  rw [ck]
  by_cases e:y=x
  ·subst e
   rw [wD fun z hz=>h z (by simp [hz]) (fun e=>h1 (e ▸ hz))]; grind
  rw [ih h2 (by rcases List.mem_cons.1 hx with h | h; exact absurd h.symm e; exact h) fun z hz=>h z (by simp [hz]),h y (by simp) e]; grind
theorem Bs {l:List Nat} (hl:l.Nodup) {x:Nat} (hx:x∈l):∀ (k:Nat) (h:List Nat→K),(sW l k fun w=>if c7 x w=k then h w else 0)=h (List.replicate k x)
 | 0,h=>by simp [sW,c7]
 | k + 1,h=>by
  rw [sW,yb hl hx fun y hy hne=>?_]
  ·have e:∀ w:List Nat,(if c7 x (x :: w)=k + 1 then h (x :: w) else 0)=if c7 x w=k then h (x :: w) else 0:=fun w=>by
    rw [gT,if_pos rfl]
    by_cases e:c7 x w=k
    ·rw [if_pos e,if_pos (by omega)]
    rw [if_neg e,if_neg (by omega)]
   simp only [e]
   rw [Bs hl hx k fun w=>h (x :: w)]
   rfl
  have:=eu (l:=l) (k:=k) (f:=fun w=>if c7 x (y :: w)=k + 1 then h (y :: w) else 0) (g:=fun _=>(0:K)) fun w hw _=>by
   rw [gT,if_neg hne,if_neg]
   have:=q7 x w
   omega
  rw [this]
  have h0:=oP (l:=l) (0:K) (k:=k) fun _=>(0:K)
  have h1:(fun _:List Nat=>(0:K) * 0)=fun _=>0:=by funext w; grind
  rw [h1] at h0
  rw [h0]; grind
theorem q9 (F:my K) {p:Nat} (hp0:0 < p) (hp:(p:K)=0) (hc:∀ a:Nat,0 < a→a < p→(a:K) ≠ 0) {l:List Nat} (hl:l.Nodup) {f:List Nat→K} (hf:∀ w,f (iY w)=f w) :
  sW l p f=sl l fun x=>f (List.replicate p x):=by
 have hiv:∀ a:Nat,∃ b:K,0 < a→a < p→(a:K) * b=1:=fun a=>by
  by_cases h:0 < a∧a < p
  ·obtain ⟨b,hb⟩:=F.1 _ (hc a h.1 h.2)
   exact ⟨b,fun _ _=>hb⟩
  exact ⟨0,fun h1 h2=>absurd ⟨h1,h2⟩ h⟩
 obtain ⟨iv,hiv⟩:=Classical.axiomOfChoice hiv
 let g:List Nat→K:=fun w=>if c7 (ng l w) w=p then 0 else iv (c7 (ng l w) w) * f w
 have hg:∀ w,g (iY w)=g w:=fun w=>by simp only [g,wh,sB,hf]
 let f1:List Nat→K:=fun w=>if c7 (ng l w) w=p then f w else 0
 have hsplit:∀ w,w.length=p→(∀ x∈w,x∈l)→f w=f1 w + (g w * o9 (ng l w) w + (-1) * (g (iY w) * o9 (ng l (iY w)) (iY w))):=fun w hw hwl=>by
  rw [hg,wh,zu hp hw hp0]
  simp only [f1,g]
  have hne:∃ x∈l,x∈w:=by
   cases w with
   | nil=>simp at hw; omega
   | cons y w=>exact ⟨y,hwl y (by simp),by simp⟩
  have h1:=oL.2 (wi hne)
  have h2:=q7 (ng l w) w
  by_cases e:c7 (ng l w) w=p
  ·rw [if_pos e,if_pos e]; grind
  rw [if_neg e,if_neg e]
  have:=hiv (c7 (ng l w) w) h1 (by omega)
  grind
 obtain ⟨k,rfl⟩:∃ k,p=k + 1:=⟨p - 1,by omega⟩
 rw [eu hsplit,uV,uV,oP]
 have h3:=FN (l:=l) (k:=k) fun w=>g w * o9 (ng l w) w
 rw [h3]
 have h4:sW l (k + 1) f1=sl l fun x=>f (List.replicate (k + 1) x):=by
  rw [sW]
  refine jm fun x hx=>?_
  have e:∀ w:List Nat,w.length=k→(∀ y∈w,y∈l)→f1 (x :: w)=if c7 x w=k then f (x :: w) else 0:=fun w hw hwl=>by
   simp only [f1]
   have hne:∃ y∈l,y∈x :: w:=⟨x,hx,by simp⟩
   have h1:=wi hne
   have h2:=q7 (ng l (x :: w)) (x :: w)
   by_cases e:c7 x w=k
   ·have hw2:=qN (e.trans hw.symm)
    have:ng l (x :: w)=x:=by
     rcases List.mem_cons.1 h1 with h | h
     ·exact h
     exact (List.eq_replicate_iff.1 hw2).2 _ h
    rw [if_pos e,this,if_pos (by rw [gT,if_pos rfl,e])]
   rw [if_neg e]
   rw [if_neg fun h=>?_]
   have h5:=qN (x:=ng l (x :: w)) (w:=x :: w) (by rw [h,List.length_cons,hw])
   rw [List.length_cons,List.replicate_succ] at h5
   injection h5 with h6 h7
   rw [← h6] at h7
   rw [h7,zE] at e
   omega
  rw [eu e,Bs hl hx k fun w=>f (x :: w)]
  rfl
 rw [h4]; grind
def AP (A:(Nat→K)→Nat→K):Prop:=(∀ u v,A (fun j=>u j + v j)=fun j=>A u j + A v j)∧∀ k u,A (fun j=>k * u j)=fun j=>k * A u j
def mY (A:(Nat→K)→Nat→K):Nat→(Nat→K)→Nat→K
 | 0,u=>u
 | k + 1,u=>A (mY A k u)
theorem AP.zero {A:(Nat→K)→Nat→K} (h:AP A):A (fun _=>0)=fun _=>0:=by
 have:=h.2 0 fun _=>0
 have e:(fun _:Nat=>(0:K) * 0)=fun _=>0:=by funext j; grind
 rw [e] at this
 rw [this]; funext j; grind
theorem AP.sm {A:(Nat→K)→Nat→K} (h:AP A) (c:Nat→K) (y:Nat→Nat→K):∀ n,A (fun j=>sm (fun i=>c i * y i j) n)=fun j=>Go.Proofs.YtjlmpmidchddjaaDoor.sm (fun i=>c i * A (y i) j) n
 | 0=>h.zero
 | n + 1=>by
  have e:(fun j=>Go.Proofs.YtjlmpmidchddjaaDoor.sm (fun i=>c i * y i j) (n + 1))=fun j=>(fun j=>Go.Proofs.YtjlmpmidchddjaaDoor.sm (fun i=>c i * y i j) n) j + (fun j=>c n * y n j) j:=rfl
  rw [e,h.1,h.2,AP.sm h c y n]
  rfl
def Cg (A:(Nat→K)→Nat→K) (p:Nat) (v:K) (u:Nat→K) (j:Nat):K:=u j - sm (fun k=>v ^ (p - 1 - k) * mY A k u j) p
theorem CJ {A:(Nat→K)→Nat→K} (h:AP A) {p:Nat} (hp:0 < p) {v:K} (hv:v ^ p=v) {u:Nat→K} (hu:mY A p u=A u) (j:Nat):A (Cg A p v u) j=v * Cg A p v u j:=by
 have e:Cg A p v u=fun j=>u j + (-1) * (fun j=>sm (fun k=>v ^ (p - 1 - k) * mY A k u j) p) j:=by funext j; unfold Cg; grind
 rw [e,h.1,h.2,h.sm]
 show A u j + -1 * sm (fun k=>v ^ (p - 1 - k) * A (mY A k u) j) p=v * (u j + -1 * sm (fun k=>v ^ (p - 1 - k) * mY A k u j) p)
 have tel:∀ q,q≤p→sm (fun k=>v ^ (p - 1 - k) * A (mY A k u) j) q - v * sm (fun k=>v ^ (p - 1 - k) * mY A k u j) q=v ^ (p - q) * mY A q u j - v ^ p * u j:=by
  intro q
  induction q with
  | zero=>intro _; simp only [sm,mY,Nat.sub_zero]; grind
  | succ q ih =>
   intro hq
   have h1:=ih (by omega)
   simp only [sm]
   have h2:v ^ (p - q)=v ^ (p - 1 - q) * v:=by rw [show p - q=(p - 1 - q) + 1 by omega,Semiring.pow_succ]
   have h3:p - (q + 1)=p - 1 - q:=by omega
   rw [h3]
   show _=v ^ (p - 1 - q) * A (mY A q u) j - _
   rw [h2] at h1
   grind
 have h1:=tel p (Nat.le_refl _)
 rw [Nat.sub_self,Semiring.pow_zero,hu,hv] at h1
 grind
def IP (K:Type) [CommRing K] (p:Nat):Prop:=∀ j,j≤p - 1→sm (fun v=>((v:Nat):K) ^ j) p=if j=p - 1 then -1 else 0
theorem CK {A:(Nat→K)→Nat→K} {p:Nat} (hp:2≤p) (hp0:(p:K)=0) (hs:IP K p) (u:Nat→K) (j:Nat):sm (fun v=>Cg A p ((v:Nat):K) u j) p=u j:=by
 unfold Cg
 rw [kD,dN,hp0,aW]
 have e:∀ k,k < p→sm (fun v=>((v:Nat):K) ^ (p - 1 - k) * mY A k u j) p=(if k=0 then -1 else 0) * mY A k u j:=fun k hk=>by
  rw [bH,hs _ (by omega)]
  by_cases h:k=0
  ·rw [if_pos h,if_pos (by omega)]
  rw [if_neg h,if_neg (by omega)]
 rw [ai e,bc (i:=0) (by omega) fun k hk hne=>by show (if k=0 then (-1:K) else 0) * mY A k u j=0; rw [if_neg hne]; grind]
 show 0 * u j - (if 0=0 then (-1:K) else 0) * u j=u j
 rw [if_pos rfl]; grind
end
end Go.Proofs.YtjlmpmidchddjaaDoor
