/-
  Texts of this proof, one behind the other: what each says stands at its head. Conditions: none.
-/
import Derived.Test.YtpobnnfkeekiaaaDoorB1
import Derived.ProofKit
import Derived.OpenShut
import Derived.ChangeCalls
import Derived.SizedLaws
set_option linter.all false
namespace Go.Pv
open Go.RowKit
theorem Rel.congr {C:Ctx} {m:Map} {s s2:St} {tmps:Array Value} {w:World} (h:Rel C m s tmps w) (h1:∀ t,s2.get t=s.get t) (h2:s2.H=s.H) (h3:s2.n=s.n):Rel C m s2 tmps w:=by
 refine ⟨by rw [h2]; exact h.laid,h.below,h.base,by rw [h3]; exact h.size,?_,?_,?_,fun t=>?_,by rw [h2]; exact h.mp⟩
 ·rw [h2]; exact h.inj
 ·rw [h2]; exact h.blk
 ·rw [h2]; exact h.fro
 rw [h1,h2]; exact h.slot t
section
variable {P:Program} {ops:Array Oper}
structure Out where
 av:AV
 H:az
def sD (ops:Array Oper) (out:Nat→Out) (s:St) (D:Nat→Bool):Nat→St
 | 0=>s
 | k + 1=>if D k then ({ sD ops out s D k with H:=if lO (bP ops k).op then (out k).H else (sD ops out s D k).H } : St).put (bP ops k).dst (out k).av else sD ops out s D k
theorem dB (s:St) (d:Option Nat) (x:AV) (t:Nat):(s.put d x).get t=if d=some t then x else s.get t:=by
 cases d with
 | none=>simp [St.put]
 | some d =>
  by_cases h:d=t
  ·subst h; simp [St.put,St.get,lk]
  simp [St.put,St.get,lk,h,show (d == t)=false by simpa using h]
theorem sZ (out:Nat→Out) (s:St) (D:Nat→Bool):∀ k,(sD ops out s D k).n=s.n
 | 0=>rfl
 | k + 1=>by
  simp only [sD]
  split
  ·rw [St.jl]; exact sZ out s D k
  exact sZ out s D k
theorem kg (out:Nat→Out) (s:St) (D:Nat→Bool) (k t:Nat):(sD ops out s D (k + 1)).get t=if D k=true∧(bP ops k).dst=some t then (out k).av else (sD ops out s D k).get t:=by
 simp only [sD]
 by_cases h:D k=true
 ·rw [if_pos h,dB]
  by_cases hd:(bP ops k).dst=some t
  ·have hr:D k=true∧(bP ops k).dst=some t:=⟨h,hd⟩
   rw [if_pos hd,if_pos hr]
  have hr:¬ (D k=true∧(bP ops k).dst=some t):=fun hh=>hd hh.2
  rw [if_neg hd,if_neg hr]; rfl
 have hr:¬ (D k=true∧(bP ops k).dst=some t):=fun hh=>h hh.1
 rw [if_neg h,if_neg hr]
theorem uz (out:Nat→Out) (s:St) (D:Nat→Bool) (k:Nat):(sD ops out s D (k + 1)).H=if D k=true∧lO (bP ops k).op=true then (out k).H else (sD ops out s D k).H:=by
 simp only [sD]
 by_cases h:D k=true
 ·rw [if_pos h,St.fD]
  by_cases hd:lO (bP ops k).op=true
  ·have hr:D k=true∧lO (bP ops k).op=true:=⟨h,hd⟩
   rw [if_pos hr]; simp only [hd,if_true]
  have hr:¬ (D k=true∧lO (bP ops k).op=true):=fun hh=>hd hh.2
  rw [if_neg hr]; simp only [hd,Bool.false_eq_true,if_false]
 have hr:¬ (D k=true∧lO (bP ops k).op=true):=fun hh=>h hh.1
 rw [if_neg h,if_neg hr]
theorem nH (out : Nat → Out) (s : St) (D : Nat → Bool) (t : Nat) : ∀ k n, k ≤ n → (∀ i, k ≤ i → i < n → D i = true → (bP ops i).dst ≠ some t) → (sD ops out s D n).get t = (sD ops out s D k).get t := by
  intro k n hkn h
  induction n with
  | zero => obtain rfl : k = 0 := by omega
            rfl
  | succ n ih =>
    by_cases hk : k = n + 1
    · rw [hk]
    · rw [kg, if_neg (fun hh => h n (by omega) (by omega) hh.1 hh.2)]
      exact ih (by omega) fun i h1 h2 => h i h1 (by omega)
theorem rO (out : Nat → Out) (s : St) (D : Nat → Bool) : ∀ k n, k ≤ n → (∀ i, k ≤ i → i < n → D i = true → lO (bP ops i).op = false) → (sD ops out s D n).H = (sD ops out s D k).H := by
  intro k n hkn h
  induction n with
  | zero => obtain rfl : k = 0 := by omega
            rfl
  | succ n ih =>
    by_cases hk : k = n + 1
    · rw [hk]
    · rw [uz, if_neg (fun hh => by have := h n (by omega) (by omega) hh.1; rw [this] at hh; simp at hh)]
      exact ih (by omega) fun i h1 h2 => h i h1 (by omega)
theorem km (out:Nat→Out) (s:St) (D D' : Nat→Bool) (t:Nat):∀ k,(∀ i,i < k→(bP ops i).dst=some t→D i=D' i)→(sD ops out s D k).get t=(sD ops out s D' k).get t:=by
 intro k h
 induction k with
 | zero=>rfl
 | succ k ih =>
  rw [kg,kg,ih fun i hi=>h i (by omega)]
  by_cases hd:(bP ops k).dst=some t
  ·rw [h k (by omega) hd]
  rw [if_neg (fun hh=>hd hh.2),if_neg (fun hh=>hd hh.2)]
theorem ns (out:Nat→Out) (s:St) (D D' : Nat→Bool):∀ k,(∀ i,i < k→lO (bP ops i).op=true→D i=D' i)→(sD ops out s D k).H=(sD ops out s D' k).H:=by
 intro k h
 induction k with
 | zero=>rfl
 | succ k ih =>
  rw [uz,uz,ih fun i hi=>h i (by omega)]
  by_cases hd:lO (bP ops k).op=true
  ·rw [h k (by omega) hd]
  rw [if_neg (fun hh=>hd hh.2),if_neg (fun hh=>hd hh.2)]
structure Fact (P:Program) (ops:Array Oper) (out:Nat→Out) (s:St) (j:Nat) (o:Oper):Prop where
 dst:∀ t,o.dst=some t→t < s.n
 how:(a8 ops (sD ops out s (fun _=>true) j) o=some false∧(out j).av = .p (.tup [])∧lO o.op=false) ∨
  (a8 ops (sD ops out s (fun _=>true) j) o=some true∧vg P o (sD ops out s (fun _=>true) j) (out j).av (out j).H)
theorem iz.facts:∀ (l:List Oper) (k:Nat) (pre:Nat→Out) (s s1 s' : St),(∀ i,l[i]? = ops[k + i]?)→k + l.length=ops.size→(∀ t,s1.get t=(sD ops pre s (fun _=>true) k).get t)→s1.H=(sD ops pre s (fun _=>true) k).H→s1.n=s.n →
  (∀ o∈l,o.guard ≠ none→lO o.op=false) →
  iz P true ops l s1 s'→∃ out:Nat→Out,(∀ i,i < k→out i=pre i)∧(∀ i o,k≤i→ops[i]? = some o→Fact P ops out s i o)∧(∀ t,s'.get t=(sD ops out s (fun _=>true) ops.size).get t)∧s'.H=(sD ops out s (fun _=>true) ops.size).H∧s'.n=s.n
 | [],k,pre,s,s1,s',hl,hk,hg,hH,hn,_,hr=>by
  cases hr
  simp at hk
  subst hk
  refine ⟨pre,fun _ _=>rfl,fun i o hi ho=>?_,hg,hH,hn⟩
  have:=(Array.getElem?_eq_some_iff.1 ho).1
  omega
 | o :: r,k,pre,s,s1,s',hl,hk,hg,hH,hn,hgw,hr=>by
  have ho:ops[k]? = some o:=by have:=hl 0; simpa using this.symm
  have hod:bP ops k=o:=cN ho
  have sDpre:∀ (x:Out) (j:Nat),j≤k→sD ops (fun i=>if i=k then x else pre i) s (fun _=>true) j=sD ops pre s (fun _=>true) j:=by
   intro x j hj
   induction j with
   | zero=>rfl
   | succ j ih =>
    simp only [sD]
    rw [ih (by omega),if_neg (by omega:¬ j=k)]
  have hgs:∀ b,a8 ops s1 o=some b→a8 ops (sD ops pre s (fun _=>true) k) o=some b:=by
   intro b h
   unfold a8 at h ⊢
   simp only [hg] at h
   exact h
  cases hr with
  | cons h hr =>
   have next:∀ (x:Out) (sn:St),(∀ t,sn.get t=if o.dst=some t then x.av else s1.get t)→(sn.H=if lO o.op=true then x.H else s1.H)→sn.n=s1.n→iz P true ops r sn s' →
     Fact P ops (fun i=>if i=k then x else pre i) s k o →
     ∃ out:Nat→Out,(∀ i,i < k→out i=pre i)∧(∀ i o,k≤i→ops[i]? = some o→Fact P ops out s i o)∧(∀ t,s'.get t=(sD ops out s (fun _=>true) ops.size).get t)∧s'.H=(sD ops out s (fun _=>true) ops.size).H∧s'.n=s.n:=by
    intro x sn h1 h2 h3 hrn hf
    obtain ⟨out,g1,g2,g3⟩:=iz.facts r (k + 1) (fun i=>if i=k then x else pre i) s sn s' (fun i=>by have:=hl (i + 1); simp only [List.getElem?_cons_succ] at this; rw [this]; congr 1; omega) (by simp at hk; omega)
     (fun t=>by rw [h1,kg,hod,sDpre x k (Nat.le_refl _),hg]; simp) (by rw [h2,uz,hod,sDpre x k (Nat.le_refl _),hH]; simp) (by rw [h3,hn]) (fun o ho=>hgw o (by simp [ho])) hrn
    refine ⟨out,fun i hi=>?_,fun i o' hi ho'=>?_,g3⟩
    ·rw [g1 i (by omega),if_neg (by omega)]
    by_cases hik:i=k
    ·subst hik
     rw [ho] at ho'; cases ho'
     have e1:∀ j,j≤i→sD ops out s (fun _=>true) j=sD ops (fun i'=>if i' = i then x else pre i') s (fun _=>true) j:=by
      intro j hj
      induction j with
      | zero=>rfl
      | succ j ih=>simp only [sD]; rw [ih (by omega),g1 j (by omega)]
     have e2:out i=(fun i'=>if i' = i then x else pre i') i:=g1 i (by omega)
     refine ⟨hf.dst,?_⟩
     have:=hf.how
     rw [e1 i (Nat.le_refl _),e2]
     exact this
    exact g2 i o' (by omega) ho'
   cases h with
   | skip hgd hd =>
    have hgn:o.guard ≠ none:=by
     intro e
     unfold a8 at hgd
     rw [e] at hgd
     simp at hgd
    have hw:=hgw o (by simp) hgn
    refine next ⟨.p (.tup []),s1.H⟩ _ (fun t=>dB _ _ _ _) (by rw [St.fD]; simp) (St.jl _ _ _) hr ⟨fun t ht=>by rw [← hn]; exact hd t ht,.inl ⟨?_,by simp,hw⟩⟩
    rw [sDpre _ k (Nat.le_refl _)]
    exact hgs false hgd
   | op av H' hgd hd hdo hloc =>
    have hloc:=hloc rfl
    have hag:∀ (s2:St),(∀ t,s2.get t=(sD ops pre s (fun _=>true) k).get t)→∀ x,s2.ev x=s1.ev x:=by
     intro s2 h2 x
     cases x<;>simp only [St.ev]
     rw [h2,hg]
    refine next ⟨av,H'⟩ (({ s1 with H:=H' } : St).put o.dst av) (fun t=>by rw [dB]; rfl) (by
      rw [St.fD]
      by_cases hw:lO o.op=true
      ·rw [if_pos hw]
      rw [if_neg hw]; exact hloc.calm (by simpa using hw)) (St.jl _ _ _) hr ⟨fun t ht=>by rw [← hn]; exact hd t ht,.inr ⟨?_,?_⟩⟩
    ·rw [sDpre _ k (Nat.le_refl _)]; exact hgs true hgd
    rw [sDpre _ k (Nat.le_refl _)]
    simp only [if_true]
    have hev:∀ x,(sD ops pre s (fun _=>true) k).ev x=s1.ev x:=hag _ fun _=>rfl
    have hnn:(sD ops pre s (fun _=>true) k).n=s1.n:=by rw [sZ,hn]
    refine ⟨fun s2 h1 h2 h3=>hloc.here s2 (h1.trans hnn) (fun x hx=>(h2 x hx).trans (hev x)) (h3.trans hH.symm),fun hf=>?_,fun hw=>by rw [← hH]; exact hloc.calm hw⟩
    obtain ⟨e1,e2⟩:=hloc.free hf
    exact ⟨by rw [← hH]; exact e1,fun s2 h1 h2=>e2 s2 (h1.trans hnn) (fun x hx=>(h2 x hx).trans (hev x))⟩
theorem xK {o:Op} (h:lO o=true):jU o=true:=by
 unfold lO at h
 split at h<;>first|rfl|cases h
theorem vn (h:tH ops=true):(∀ j o,ops[j]? = some o→∀ e∈o.after.toList,Region.binds .any e=true→e.on < j) ∧
  ∀ i j oi oj,i < j→ops[i]? = some oi→ops[j]? = some oj→gw ops oi oj=false→((bf ops).getD j 0).testBit i=true:=by
 unfold tH at h
 rw [List.all_eq_true] at h
 constructor
 ·intro j o ho e he hb
  have hj:=(Array.getElem?_eq_some_iff.1 ho).1
  have:=h j (by simpa using hj)
  rw [Bool.and_eq_true] at this
  have h1:=(List.all_eq_true.1 this.1) e (by rw [cN ho]; exact he)
  rw [hb] at h1
  simpa using h1
 intro i j oi oj hij hi hj ha
 have hj':=(Array.getElem?_eq_some_iff.1 hj).1
 have:=h j (by simpa using hj')
 rw [Bool.and_eq_true] at this
 have h1:=(List.all_eq_true.1 this.2) i (by simpa using hij)
 rw [cN hi,cN hj,ha,Bool.false_or] at h1
 exact h1
theorem wo {Q:Exit→Act→World→Prop} {C:Ctx} {ds:List Deferred} {s s' : St} (hok:tH ops=true) (hgw:∀ o∈ops.toList,o.guard ≠ none→lO o.op=false) (hrun:iz P true ops ops.toList s s') {m:Map} {a:Act} {w:World} (R:Rel C m s a.tmps w) (hd:a.defers=ds)
  (hQ:∀ m' (a' : Act) w',Rel C m' s' a'.tmps w'→a'.defers=ds→Q .normal a' w'):lM P .any ops Q ops.size (Array.replicate ops.size false) a w:=by
 obtain ⟨hedge,hconf⟩:=vn hok
 obtain ⟨out,_,hfact,hget',hH',hn'⟩:=iz.facts (ops:=ops) ops.toList 0 (fun _=>⟨.dead,[]⟩) s s s' (fun i=>by simp) (by simp) (fun _=>rfl) rfl rfl hgw hrun
 have hfact:∀ i o,ops[i]? = some o→Fact P ops out s i o:=fun i o=>hfact i o (Nat.zero_le _)
 have key:∀ (fuel:Nat) (listed:Array Bool) (m:Map) (a:Act) (w:World),listed.size=ops.size→(List.range ops.size).countP (fun i=>!listed.getD i true)=fuel →
   (∀ j o,listed.getD j false=true→ops[j]? = some o→∀ e∈o.after.toList,Region.binds .any e=true→listed.getD e.on false=true) →
   Rel C m (sD ops out s (fun i=>listed.getD i false) ops.size) a.tmps w→a.defers=ds→lM P .any ops Q fuel listed a w:=by
  intro fuel
  induction fuel with
  | zero =>
   intro listed m a w hsz hcnt hcl R hd
   have hall:∀ i,i < ops.size→listed.getD i true=true:=by
    intro i hi
    have:=List.countP_eq_zero.1 hcnt i (by simpa using hi)
    simpa using this
   refine ⟨?_,hQ m a w (R.congr (fun t=>?_) ?_ ?_) hd⟩
   ·unfold Region.ready
    rw [List.filter_eq_nil_iff]
    intro i hi
    have:=hall i (by simpa using hi)
    simp [this]
   ·rw [hget']
    refine (km out s _ _ t _ fun i hi _=>?_).symm
    have:=hall i hi
    simp [Array.getD_eq_getD_getElem?,Array.getElem?_eq_getElem (show i < listed.size by omega)] at this ⊢
    exact this
   ·rw [hH']
    refine (ns out s _ _ _ fun i hi _=>?_).symm
    have:=hall i hi
    simp [Array.getD_eq_getD_getElem?,Array.getElem?_eq_getElem (show i < listed.size by omega)] at this ⊢
    exact this
   rw [sZ,hn']
  | succ fuel ih =>
   intro listed m a w hsz hcnt hcl R hd
   refine ⟨fun hnil=>?_,fun j hj=>?_⟩
   ·
    exfalso
    have hex:∃ i,i < ops.size∧listed.getD i true=false:=by
     have:0 < (List.range ops.size).countP (fun i=>!listed.getD i true):=by omega
     obtain ⟨i,hi,h⟩:=List.countP_pos_iff.1 this
     exact ⟨i,by simpa using hi,by simpa using h⟩
    have hmin:∃ i,i < ops.size∧listed.getD i true=false∧∀ k,k < i→listed.getD k true=true:=by
     obtain ⟨i,hi,h⟩:=hex
     induction i using Nat.strongRecOn with
     | _ i ihh =>
      by_cases hall:∀ k,k < i→listed.getD k true=true
      ·exact ⟨i,hi,h,hall⟩
      simp only [Classical.not_forall] at hall
      obtain ⟨k,hk,hkn⟩:=hall
      exact ihh k hk (by omega) (by simpa using hkn)
    obtain ⟨i,hi,hli,hbelow⟩:=hmin
    have hmem:i∈Region.ready .any ops listed:=by
     unfold Region.ready
     rw [List.mem_filter]
     refine ⟨by simpa using hi,?_⟩
     rw [hli,Array.getElem?_eq_getElem hi]
     simp only [Bool.not_false,Bool.true_and,Option.map_some,Option.getD_some]
     rw [Array.all_eq_true_iff_forall_mem]
     intro e he
     by_cases hb:Region.binds .any e=true
     ·have hlt:=hedge i ops[i] (Array.getElem?_eq_getElem hi) e (by simpa using he) hb
      have:=hbelow e.on hlt
      have hlt' : e.on < listed.size:=by omega
      simp [Array.getD_eq_getD_getElem?,Array.getElem?_eq_getElem hlt'] at this ⊢
      simp [this]
     simp [hb]
    rw [hnil] at hmem
    simp at hmem
   unfold Region.ready at hj
   rw [List.mem_filter] at hj
   obtain ⟨hjlt,hj⟩:=hj
   have hjlt:j < ops.size:=by simpa using hjlt
   have hoj:ops[j]? = some ops[j]:=Array.getElem?_eq_getElem hjlt
   generalize ops[j]=o at hoj
   rw [hoj] at hj
   simp only [Option.map_some,Option.getD_some,Bool.and_eq_true,Bool.not_eq_eq_eq_not,Bool.not_true] at hj
   obtain ⟨hnl,hal⟩:=hj
   have hjls:j < listed.size:=by omega
   have hnl' : listed.getD j false=false:=by
    simp [Array.getD_eq_getD_getElem?,Array.getElem?_eq_getElem hjls] at hnl ⊢
    exact hnl
   have hpre:∀ e∈o.after.toList,Region.binds .any e=true→listed.getD e.on false=true:=by
    intro e he hb
    have:=(Array.all_eq_true_iff_forall_mem.1 hal) e (by simpa using he)
    rw [hb] at this
    simpa using this
   have hanc:∀ i,((bf ops).getD j 0).testBit i=true→listed.getD i false=true:=
    tL (D:=fun i=>listed.getD i false=true) hcl j j o (Nat.le_refl _) hoj hpre
   have hanc' : ∀ i,listed.getD i false=true→∀ oi,ops[i]? = some oi→∀ k,((bf ops).getD i 0).testBit k=true→listed.getD k false=true:=
    fun i hi oi hoi=>tL (D:=fun i=>listed.getD i false=true) hcl i i oi (Nat.le_refl _) hoi (hcl i oi hi hoi)
   have hod:bP ops j=o:=cN hoj
   have low:∀ i,i < j→gw ops (bP ops i) o=false→listed.getD i false=true:=by
    intro i hi ha
    have hoi:ops[i]? = some ops[i]:=Array.getElem?_eq_getElem (by omega)
    refine hanc i (hconf i j ops[i] o hi hoi hoj ?_)
    rwa [cN hoi] at ha
   have high:∀ i,j < i→i < ops.size→listed.getD i false=true→gw ops o (bP ops i)=true:=by
    intro i hi hlt hli
    have hoi:ops[i]? = some ops[i]:=Array.getElem?_eq_getElem hlt
    have e:bP ops i=ops[i]:=cN hoi
    rw [e]
    by_cases ha:gw ops o ops[i]=true
    ·exact ha
    have:=hanc' i hli ops[i] hoi j (hconf j i o ops[i] hi hoj hoi (by simpa using ha))
    rw [this] at hnl'; cases hnl'
   have agree:∀ t,t∈o.looksAt ops→(sD ops out s (fun i=>listed.getD i false) ops.size).get t=(sD ops out s (fun _=>true) j).get t:=by
    intro t ht
    rw [nH out s _ t j ops.size (by omega) (fun i h1 h2 h3 h4=>?_)]
    ·refine km out s _ _ t j fun i hi hdi=>?_
     rw [low i hi ?_]
     rw [Bool.eq_false_iff]
     intro hap
     unfold gw at hap
     rw [Bool.and_eq_true,Bool.and_eq_true] at hap
     exact (Oper.apart_spec hap.1.1).1 t hdi ht
    by_cases hij:i=j
    ·subst hij; rw [hnl'] at h3; cases h3
    have hap:=high i (by omega) h2 h3
    unfold gw at hap
    rw [Bool.and_eq_true,Bool.and_eq_true] at hap
    exact (Oper.apart_spec hap.1.1).2.2 t h4 ht
   have agreeH:jU o.op=true→(sD ops out s (fun i=>listed.getD i false) ops.size).H=(sD ops out s (fun _=>true) j).H:=by
    intro hT
    rw [rO out s _ j ops.size (by omega) (fun i h1 h2 h3=>?_)]
    ·refine ns out s _ _ j fun i hi hwi=>?_
     rw [low i hi ?_]
     rw [Bool.eq_false_iff]
     intro hap
     unfold gw at hap
     simp [hwi,hT] at hap
    by_cases hij:i=j
    ·subst hij; rw [hnl'] at h3; cases h3
    have hap:=high i (by omega) h2 h3
    unfold gw at hap
    simp only [hT,Bool.true_and,Bool.and_eq_true,Bool.not_eq_eq_eq_not,Bool.not_true] at hap
    exact hap.2
   have hlist:∀ i,(listed.setIfInBounds j true).getD i false=if i=j then true else listed.getD i false:=by
    intro i
    simp only [Array.getD_eq_getD_getElem?]
    by_cases hij:i=j
    ·subst hij; rw [Array.getElem?_setIfInBounds_self_of_lt hjls,if_pos rfl]; rfl
    rw [Array.getElem?_setIfInBounds_ne (Ne.symm hij),if_neg hij]
   have insertGet:∀ t,(sD ops out s (fun i=>(listed.setIfInBounds j true).getD i false) ops.size).get t=if o.dst=some t then (out j).av else (sD ops out s (fun i=>listed.getD i false) ops.size).get t:=by
    intro t
    have base:∀ k,k≤j→(sD ops out s (fun i=>(listed.setIfInBounds j true).getD i false) k).get t=(sD ops out s (fun i=>listed.getD i false) k).get t:=fun k hk =>
     km out s _ _ t k fun i hi _=>by rw [hlist,if_neg (by omega)]
    have step:∀ n,j + 1≤n→n≤ops.size→(sD ops out s (fun i=>(listed.setIfInBounds j true).getD i false) n).get t=if o.dst=some t then (out j).av else (sD ops out s (fun i=>listed.getD i false) n).get t:=by
     intro n hn hns
     induction n with
     | zero=>omega
     | succ n ihn =>
      by_cases hnj:n=j
      ·subst hnj
       rw [kg,kg,hod,base n (Nat.le_refl _),hlist,if_pos rfl,hnl']
       by_cases hdt:o.dst=some t
       ·simp [hdt]
       simp [hdt]
      rw [kg,kg,ihn (by omega) (by omega),hlist,if_neg hnj]
      by_cases hln:listed.getD n false=true∧(bP ops n).dst=some t
      ·rw [if_pos hln,if_pos hln]
       have hap:=high n (by omega) (by omega) hln.1
       unfold gw at hap
       rw [Bool.and_eq_true,Bool.and_eq_true] at hap
       by_cases hdt:o.dst=some t
       ·exact absurd hln.2 ((Oper.apart_spec hap.1.1).2.1 t hdt)
       rw [if_neg hdt]
      rw [if_neg hln,if_neg hln]
    exact step ops.size (by omega) (Nat.le_refl _)
   have insertH:(sD ops out s (fun i=>(listed.setIfInBounds j true).getD i false) ops.size).H=if lO o.op=true then (out j).H else (sD ops out s (fun i=>listed.getD i false) ops.size).H:=by
    have base:∀ k,k≤j→(sD ops out s (fun i=>(listed.setIfInBounds j true).getD i false) k).H=(sD ops out s (fun i=>listed.getD i false) k).H:=fun k hk =>
     ns out s _ _ k fun i hi _=>by rw [hlist,if_neg (by omega)]
    have step:∀ n,j + 1≤n→n≤ops.size→(sD ops out s (fun i=>(listed.setIfInBounds j true).getD i false) n).H=if lO o.op=true then (out j).H else (sD ops out s (fun i=>listed.getD i false) n).H:=by
     intro n hn hns
     induction n with
     | zero=>omega
     | succ n ihn =>
      by_cases hnj:n=j
      ·subst hnj
       rw [uz,uz,hod,base n (Nat.le_refl _),hlist,if_pos rfl,hnl']
       by_cases hdt:lO o.op=true
       ·simp [hdt]
       simp [hdt]
      rw [uz,uz,ihn (by omega) (by omega),hlist,if_neg hnj]
      by_cases hln:listed.getD n false=true∧lO (bP ops n).op=true
      ·rw [if_pos hln,if_pos hln]
       have hap:=high n (by omega) (by omega) hln.1
       unfold gw at hap
       by_cases hdt:lO o.op=true
       ·simp [hdt,xK hln.2] at hap
       rw [if_neg hdt]
      rw [if_neg hln,if_neg hln]
    exact step ops.size (by omega) (Nat.le_refl _)
   have hcnt' : (List.range ops.size).countP (fun i=>!(listed.setIfInBounds j true).getD i true)=fuel:=by
    have hsplit:∀ (l:List Nat),l.Nodup→j∈l→l.countP (fun i=>!listed.getD i true)=l.countP (fun i=>!(listed.setIfInBounds j true).getD i true) + 1:=by
     intro l
     induction l with
     | nil=>intro _ h; simp at h
     | cons x r ihl =>
      intro hnd hmem
      have hx:∀ i,i ≠ j→(listed.setIfInBounds j true).getD i true=listed.getD i true:=by
       intro i hi
       simp only [Array.getD_eq_getD_getElem?]
       rw [Array.getElem?_setIfInBounds_ne (Ne.symm hi)]
      rw [List.nodup_cons] at hnd
      by_cases hxj:x=j
      ·subst hxj
       have e1:(listed.setIfInBounds x true).getD x true=true:=by
        simp only [Array.getD_eq_getD_getElem?]
        rw [Array.getElem?_setIfInBounds_self_of_lt hjls]; rfl
       rw [List.countP_cons,List.countP_cons,hnl,e1]
       have:r.countP (fun i=>!listed.getD i true)=r.countP (fun i=>!(listed.setIfInBounds x true).getD i true):=by
        apply List.countP_congr
        intro i hi
        rw [hx i (fun e=>hnd.1 (e ▸ hi))]
       simp only [this,Bool.not_false,Bool.not_true,if_true,Bool.false_eq_true,if_false,Nat.add_zero]
      rw [List.countP_cons,List.countP_cons,hx x hxj,ihl hnd.2 (by rcases List.mem_cons.1 hmem with h | h; exact absurd h.symm hxj; exact h)]
      omega
    have:=hsplit (List.range ops.size) List.nodup_range (by simpa using hjlt)
    omega
   have hcl' : ∀ i oi,(listed.setIfInBounds j true).getD i false=true→ops[i]? = some oi→∀ e∈oi.after.toList,Region.binds .any e=true→(listed.setIfInBounds j true).getD e.on false=true:=by
    intro i oi hi hoi e he hb
    rw [hlist] at hi ⊢
    by_cases hij:i=j
    ·subst hij
     rw [hoj] at hoi; cases hoi
     rw [hpre e he hb]; simp
    rw [if_neg hij] at hi
    rw [hcl i oi hi hoi e he hb]; simp
   have next:∀ (m' : Map) (a' : Act) (w' : World),(∃ s2:St,Rel C m' s2 a'.tmps w'∧(∀ t,s2.get t=if o.dst=some t then (out j).av else (sD ops out s (fun i=>listed.getD i false) ops.size).get t) ∧
      (s2.H=if lO o.op=true then (out j).H else (sD ops out s (fun i=>listed.getD i false) ops.size).H)∧s2.n=s.n)→a'.defers=ds→lM P .any ops Q fuel (listed.setIfInBounds j true) a' w':=by
    rintro m' a' w' ⟨s2,R2,e1,e2,e3⟩ hd'
    refine ih _ m' a' w' (by simpa using hsz) hcnt' hcl' (R2.congr (fun t=>?_) ?_ ?_) hd'
    ·rw [insertGet,e1]
    ·rw [insertH,e2]
    rw [sZ,e3]
   have hgd:∀ b,a8 ops (sD ops out s (fun _=>true) j) o=some b→a8 ops (sD ops out s (fun i=>listed.getD i false) ops.size) o=some b:=by
    intro b h
    unfold a8 at h ⊢
    split at h
    ·exact h
    rename_i g want e
    split at h
    ·rename_i d hdd
     have:(sD ops out s (fun i=>listed.getD i false) ops.size).get d=(sD ops out s (fun _=>true) j).get d:=agree d (by
      unfold Oper.looksAt
      rw [e]
      simp [hdd])
     rw [this]
     exact h
    cases h
   have hsn:(sD ops out s (fun i=>listed.getD i false) ops.size).n=s.n:=sZ _ _ _ _
   obtain ⟨fd,fh⟩:=hfact j o hoj
   unfold Hx
   rw [hoj]
   simp only
   rcases fh with ⟨hg,hdead,hw⟩ | ⟨hg,hloc⟩
   ·rw [bW (P:=P) R (hgd _ hg)]
    simp only [Bool.false_eq_true,if_false]
    refine next m _ w ⟨_,R.put (fun t ht=>by rw [hsn]; exact fd t ht) (.p _ _ mu),fun t=>?_,?_,?_⟩ (by rw [put_defers]; exact hd)
    ·rw [dB,hdead]
    ·rw [St.fD,hw]; simp
    rw [St.jl,hsn]
   rw [bW (P:=P) R (hgd _ hg)]
   simp only [if_true]
   left
   have hag:dW o (sD ops out s (fun _=>true) j) (sD ops out s (fun i=>listed.getD i false) ops.size):=by
    intro x hx
    cases x with
    | tmp t =>
     simp only [St.ev]
     refine agree t ?_
     unfold Oper.looksAt
     rw [List.mem_append]
     left
     rw [List.mem_filterMap]
     exact ⟨.tmp t,by simpa using hx,rfl⟩
    | _=>rfl
   have hn2:(sD ops out s (fun i=>listed.getD i false) ops.size).n=(sD ops out s (fun _=>true) j).n:=by rw [sZ,sZ]
   by_cases hT:jU o.op=true
   ·refine hloc.here _ hn2 hag (agreeH hT) C m a w _ Q R fun v m' w' R' hv=>?_
    refine next m' _ w' ⟨_,R'.put (fun t ht=>by simp only; rw [hsn]; exact fd t ht) hv,fun t=>?_,?_,?_⟩ (by rw [put_defers]; exact hd)
    ·rw [dB]; rfl
    ·rw [St.fD]
     by_cases hw:lO o.op=true
     ·rw [if_pos hw]
     rw [if_neg hw,agreeH hT]; exact hloc.calm (by simpa using hw)
    rw [St.jl]; exact hsn
   obtain ⟨e1,e2⟩:=hloc.free (by simpa using hT)
   refine e2 _ hn2 hag C m a w _ Q R fun v m' w' R' hv=>?_
   have hw:lO o.op=false:=by
    rw [Bool.eq_false_iff]
    exact fun hw=>hT (xK hw)
   refine next m' _ w' ⟨_,R'.put (fun t ht=>by simp only; rw [hsn]; exact fd t ht) hv,fun t=>?_,?_,?_⟩ (by rw [put_defers]; exact hd)
   ·rw [dB]
   ·rw [St.fD,hw]; simp
   rw [St.jl]; exact hsn
 refine key ops.size (Array.replicate ops.size false) m a w (by simp) ?_ ?_ ?_ hd
 ·have:∀ i∈List.range ops.size,(!(Array.replicate ops.size false).getD i true)=true:=by
   intro i hi
   have hi:i < ops.size:=by simpa using hi
   simp [Array.getD_eq_getD_getElem?,hi]
  rw [List.countP_eq_length.2 this]
  simp
 ·intro j o hj
  exfalso
  simp only [Array.getD_eq_getD_getElem?,Array.getElem?_replicate] at hj
  split at hj<;>simp at hj
 refine R.congr (fun t=>?_) ?_ (sZ _ _ _ _)
 ·refine nH out s _ t 0 ops.size (Nat.zero_le _) fun i _ hi h=>?_
  simp only [Array.getD_eq_getD_getElem?,Array.getElem?_replicate] at h
  split at h<;>simp at h
 refine rO out s _ 0 ops.size (Nat.zero_le _) fun i _ hi h=>?_
 simp only [Array.getD_eq_getD_getElem?,Array.getElem?_replicate] at h
 split at h<;>simp at h
end
open Go.RowKit
section
variable {P:Program} {T:TypeId→Option TI}
theorem G7 {op:BinOp} {t:TypeId} {H:az} {x y:AV} {r:OV} (h:cR T op t H x y=some r):r.H=H∧∀ H2,cR T op t H2 x y=some { r with H:=H2 }:=by
 unfold cR at h ⊢
 split at h<;>(try split at h)<;>simp only [Option.some.injEq,reduceCtorEq] at h<;>subst h<;>exact ⟨rfl,fun _=>rfl⟩
theorem Ax {ti:TI} {H:az} {x y:AV} {r:OV} (h:lA ti H x y=some r):r.H=H∧∀ H2,lA ti H2 x y=some { r with H:=H2 }:=by
 unfold lA at h ⊢
 split at h
 ·split at h
  ·rename_i hk
   split at h<;>simp only [Option.some.injEq,reduceCtorEq] at h
   subst h
   refine ⟨rfl,fun H2=>?_⟩
   simp [hk]
  cases h
 cases h
theorem Gh {H:az} {x:AV} {r:OV} (h:vC H x=some r):r.H=H∧∀ H2,vC H2 x=some { r with H:=H2 }:=by
 unfold vC at h ⊢
 split at h<;>simp only [Option.some.injEq,reduceCtorEq] at h<;>subst h<;>exact ⟨rfl,fun _=>rfl⟩
theorem Im {op:UnOp} {H:az} {x:AV} {r:OV} (h:zJ op H x=some r):r.H=H∧∀ H2,zJ op H2 x=some { r with H:=H2 }:=by
 unfold zJ at h ⊢
 split at h<;>(try split at h)<;>simp only [Option.some.injEq,reduceCtorEq] at h<;>subst h<;>exact ⟨rfl,fun _=>rfl⟩
theorem D5 {H:az} {a b x:AV} {r:OV} (h:lQ a b H x=some r):r.H=H∧∀ H2,lQ a b H2 x=some { r with H:=H2 }:=by
 unfold lQ at h ⊢
 split at h<;>simp only [Option.some.injEq,reduceCtorEq] at h<;>subst h<;>exact ⟨rfl,fun _=>rfl⟩
theorem CD {src dst:TypeId} {H:az} {x:AV} {r:OV} (h:nP T src dst H x=some r):r.H=H∧∀ H2,nP T src dst H2 x=some { r with H:=H2 }:=by
 unfold nP at h ⊢
 split at h<;>(try split at h)<;>simp only [Option.some.injEq,reduceCtorEq] at h<;>subst h<;>exact ⟨rfl,fun _=>by simp_all⟩
theorem sW {ti:TI} {f:Nat} {H:az} {x:AV} {r:OV} (h:ep ti f H x=some r):r.H=H∧∀ H2,ep ti f H2 x=some { r with H:=H2 }:=by
 unfold ep at h ⊢
 split at h<;>(try split at h)<;>(try split at h)<;>simp only [Option.some.injEq,reduceCtorEq] at h<;>subst h<;>exact ⟨rfl,fun _=>by simp_all⟩
theorem B0 {ti:TI} {f:Nat} {H:az} {x:AV} {r:OV} (h:la T ti f H x=some r):r.H=H∧∀ H2,la T ti f H2 x=some { r with H:=H2 }:=by
 unfold la at h ⊢
 split at h
 ·split at h
  ·split at h
   ·rename_i tf htf
    cases hr:dA tf.kind<;>rw [hr] at h<;>simp only [cond_true,cond_false,Option.some.injEq] at h<;>subst h<;>exact ⟨rfl,fun _=>by simp_all⟩
   cases h
  cases h
 cases h
theorem tr {ti:TI} {H:az} {x y:AV} {r:OV} (h:dH T ti H x y=some r):r.H=H∧∀ H2,dH T ti H2 x y=some { r with H:=H2 }:=by
 unfold dH at h ⊢
 split at h<;>(try split at h)<;>(try split at h)<;>(try split at h)<;>simp only [Option.some.injEq,reduceCtorEq] at h<;>subst h<;>exact ⟨rfl,fun _=>by simp_all⟩
theorem Bh {ti:TI} {H:az} {x:AV} {lo hi:Option AV} {r:OV} (h:lE T ti H x lo hi=some r):r.H=H∧∀ H2,lE T ti H2 x lo hi=some { r with H:=H2 }:=by
 unfold lE at h ⊢
 split at h<;>(try split at h)<;>(try split at h)<;>(try split at h)<;>simp only [Option.some.injEq,reduceCtorEq] at h<;>subst h<;>exact ⟨rfl,fun _=>by simp_all⟩
theorem wV {i:Nat} {H:az} {x:AV} {r:OV} (h:eD i H x=some r):r.H=H∧∀ H2,eD i H2 x=some { r with H:=H2 }:=by
 unfold eD at h ⊢
 split at h<;>simp only [Option.some.injEq,reduceCtorEq] at h<;>subst h<;>exact ⟨rfl,fun _=>rfl⟩
theorem GM {ti:TI} {H:az} {x:AV} {r:OV} (h:vO ti H x=some r):r.H=H∧∀ H2,vO ti H2 x=some { r with H:=H2 }:=by
 unfold vO at h ⊢
 split at h<;>(try split at h)<;>simp only [Option.some.injEq,reduceCtorEq] at h<;>subst h<;>exact ⟨rfl,fun _=>by simp_all⟩
theorem rG {f:Int→Int→Int} {H:az} {l:List AV} {r:OV} (h:fQ f H l=some r):r.H=H∧∀ H2,fQ f H2 l=some { r with H:=H2 }:=by
 unfold fQ at h ⊢
 split at h<;>simp only [Option.some.injEq,reduceCtorEq] at h<;>subst h<;>exact ⟨rfl,fun _=>rfl⟩
theorem BJ {ti:TI} {H:az} {l:List (Nat × AV)} {r:OV} (h:kn T ti H l=some r):r.H=H∧∀ H2,kn T ti H2 l=some { r with H:=H2 }:=by
 unfold kn at h ⊢
 split at h<;>(try split at h)<;>(try split at h)<;>simp only [Option.some.injEq,reduceCtorEq] at h<;>subst h<;>exact ⟨rfl,fun _=>by simp_all⟩
theorem qY {ti:TI} {n:Nat} {H:az} {l:List (Nat × AV)} {r:OV} (h:dF T ti H n l=some r):r.H=H∧∀ H2,dF T ti H2 n l=some { r with H:=H2 }:=by
 unfold dF at h ⊢
 split at h<;>(try split at h)<;>(try split at h)<;>simp only [Option.some.injEq,reduceCtorEq] at h<;>subst h<;>exact ⟨rfl,fun _=>by simp_all⟩
theorem rS {ti:TI} {ok:Bool} {H:az} {x y:AV} {r:OV} (h:gh T ti ok H x y=some r):r.H=H:=by
 unfold gh at h
 split at h
 ·split at h
  ·split at h
   ·split at h
    ·simp only [Option.some.injEq] at h
     subst h; rfl
    cases h
   cases h
  cases h
 cases h
theorem tC {ti:TI} {H:az} {x:AV} {r:OV} (h:jm ti H x=some r):r.H=H:=by
 unfold jm at h
 split at h
 ·split at h
  ·cases hr:dA ti.kind<;>rw [hr] at h<;>simp only [cond_true,cond_false,Option.some.injEq] at h<;>subst h<;>rfl
  ·cases hr:dA ti.kind<;>rw [hr] at h<;>simp only [cond_true,cond_false,Option.some.injEq] at h<;>subst h<;>rfl
  ·cases h
  ·cases h
  ·cases h
  cases h
 ·cases hr:dA ti.kind<;>rw [hr] at h<;>simp only [cond_true,cond_false,Option.some.injEq] at h<;>subst h<;>rfl
 cases h
theorem nK {f:FuncId} {H:az} {l:List AV} {r:OV} (h:e7 f H l=some r):r.H=H:=by
 unfold e7 at h
 split at h<;>simp only [Option.some.injEq,reduceCtorEq] at h
 subst h; rfl
theorem mY {s s2:St} {op:Op} (h:∀ x∈op.operands,s2.ev x=s.ev x) (hH:s2.H=s.H):cW T s2 op=cW T s op:=by
 have parts:∀ ps:Array (Nat × Operand),(∀ x∈(ps.toList.map (·.2)).toArray,s2.ev x=s.ev x)→(ps.toList.map fun p=>(p.1,s2.ev p.2))=ps.toList.map fun p=>(p.1,s.ev p.2):=by
  intro ps hp
  apply List.map_congr_left
  intro q hq
  rw [hp q.2 (by simpa using ⟨q.1,by simpa using hq⟩)]
 have opts:∀ o:Option Operand,(∀ x∈o.toArray,s2.ev x=s.ev x)→o.map s2.ev=o.map s.ev:=by
  intro o ho
  cases o with
  | none=>rfl
  | some x=>simp [ho x (by simp)]
 have lists:∀ l:Array Operand,(∀ x∈l,s2.ev x=s.ev x)→l.toList.map s2.ev=l.toList.map s.ev:=by
  intro l hl
  apply List.map_congr_left
  intro x hx
  exact hl x (by simpa using hx)
 cases op<;>simp only [Op.operands] at h
 case call c =>
  obtain ⟨callee,args,ts⟩:=c
  cases callee with
  | builtin b =>
   simp only [cW,hH]
   rw [lists args fun x hx=>h x (by simpa [Call.operands] using hx)]
  | _=>simp [cW]
 case slice t x lo hi mx =>
  cases mx with
  | none =>
   simp only [cW,hH]
   rw [h x (by simp),opts lo fun y hy=>h y (by simp at hy ⊢; simp [hy]),opts hi fun y hy=>h y (by simp at hy ⊢; simp [hy])]
  | some _=>simp [cW]
 case makeFunc fn first caps =>
  cases fn with
  | func f =>
   simp only [cW,hH]
   rw [lists caps fun x hx=>h x (by simp [hx])]
  | _=>simp [cW]
 case makeMap t r =>
  cases r with
  | none=>simp only [cW,hH]
  | some _=>simp [cW]
 case build t ps=>simp only [cW,hH]; rw [parts ps fun x hx=>h x hx]
 case buildSlice t n ps=>simp only [cW,hH]; rw [parts ps fun x hx=>h x hx]
 all_goals simp only [cW,hH]
 all_goals first|rfl|(simp only [List.mem_toArray,List.mem_cons,List.not_mem_nil,or_false,forall_eq_or_imp,forall_eq] at h; simp only [h])
theorem jD {s:St} {op:Op} {r:OV} (hT:jU op=false) (h:cW T s op=some r):r.H=s.H∧∀ H2,cW T { s with H:=H2 } op=some { r with H:=H2 }:=by
 have hev:∀ (H2:az) (x:Operand),({ s with H:=H2 } : St).ev x=s.ev x:=fun H2 x=>by cases x<;>rfl
 have hev' : ∀ (H2:az),({ s with H:=H2 } : St).ev=s.ev:=fun H2=>funext (hev H2)
 cases op<;>simp only [jU,Bool.true_eq_false] at hT
 case call c =>
  obtain ⟨callee,args,ts⟩:=c
  cases callee with
  | builtin b =>
   simp only [cW,hev'] at h ⊢
   cases b<;>simp only [Bool.true_eq_false] at hT
   ·unfold cF at h ⊢
    split at h<;>simp only [reduceCtorEq] at *
    rename_i x t
    split at h
    ·exact GM h
    cases h
   ·simp only [cF] at h ⊢
    exact rG h
   simp only [cF] at h ⊢
   exact rG h
  | _=>simp [cW] at h
 all_goals simp only [cW,hev'] at h ⊢
 case move=>cases h; exact ⟨rfl,fun _=>rfl⟩
 case assign=>cases h; exact ⟨rfl,fun _=>rfl⟩
 case pick=>exact D5 h
 case binOp=>exact G7 h
 case unOp=>exact Im h
 case nilCheck=>exact Gh h
 case index =>
  split at h
  ·exact Ax h
  cases h
 case convert=>exact CD h
 case extract=>exact wV h
 case fieldAddr =>
  split at h
  ·exact sW h
  cases h
 case field =>
  split at h
  ·rename_i x _ _ _ _
   cases hl:(s.ev x).isAgg<;>rw [hl] at h
   ·cases h
   simp only [cond_true] at h ⊢; exact B0 h
  cases h
 case indexAddr =>
  split at h
  ·exact tr h
  cases h
 case slice t x lo hi mx =>
  cases mx with
  | none =>
   simp only at h ⊢
   split at h
   ·exact Bh h
   cases h
  | some _=>simp at h
 case build =>
  split at h
  ·exact BJ h
  cases h
 case buildSlice =>
  split at h
  ·exact qY h
  cases h
theorem AG {s:St} {op:Op} {r:OV} (hW:lO op=false) (h:cW T s op=some r):r.H=s.H:=by
 by_cases hT:jU op=false
 ·exact (jD hT h).1
 rw [Bool.not_eq_false] at hT
 cases op<;>simp only [jU,lO,Bool.true_eq_false,Bool.false_eq_true] at hT hW
 case load =>
  simp only [cW] at h
  split at h
  ·exact tC h
  cases h
 case makeFunc fn first caps =>
  cases fn with
  | func f =>
   simp only [cW] at h
   cases hf:first.isEmpty<;>rw [hf] at h
   ·cases h
   exact nK h
  | _=>simp [cW] at h
 case call c =>
  obtain ⟨callee,args,ts⟩:=c
  cases callee with
  | builtin b =>
   simp only [cW] at h
   unfold cF at h
   split at h<;>simp_all
  | _=>simp [cW] at h
 case lookup =>
  simp only [cW] at h
  split at h
  ·exact rS h
  cases h
 all_goals simp [cW] at h
theorem DJ (hT:∀ t ti,T t=some ti→bk P t=some ti) {o:Oper} {s:St} {r:OV} (h:cW T s o.op=some r) (hvc:r.vc):vg P o s r.av r.H:=by
 refine ⟨fun s2 hn ha hH=>?_,fun hf=>⟨(jD hf h).1,fun s2 hn ha=>?_⟩,fun hw=>AG hw h⟩
 ·have:=mY (T:=T) ha hH
  rw [h] at this
  exact (cY hT this hvc).wp
 have h1:=(jD hf h).2 s2.H
 have:=mY (T:=T) (s:={ s with H:=s2.H }) (s2:=s2) (op:=o.op) (fun x hx=>by rw [ha x hx]; cases x<;>rfl) rfl
 rw [h1] at this
 exact (cY hT this hvc).wp
inductive X where
 | run (vc:Prop) (s:St)
 | stop (vc:Prop) (rest:List Oper) (s:St)
def ay (s:St):Option Tmp→Prop
 | none=>True
 | some t=>t < s.n
def after (o:Oper) (s:St) (r:OV):St:=({ s with H:=r.H } : St).put o.dst r.av
def zZ (T:TypeId→Option TI) (all:Array Oper) (o:Oper) (rest:List Oper) (vc:Prop) (s:St):X:=
 match a8 all s o with
 | some true =>
  match cW T s o.op with
  | some r=>.run (vc∧ay s o.dst∧r.vc) (after o s r)
  | none=>.stop vc (o :: rest) s
 | some false=>.run (vc∧ay s o.dst) (s.put o.dst (.p (.tup [])))
 | none=>.stop vc (o :: rest) s
def tT (T:TypeId→Option TI) (all:Array Oper):List Oper→X→X
 | [],x=>x
 | o :: r,.run vc s=>tT T all r (zZ T all o r vc s)
 | _ :: _,.stop vc rest s=>.stop vc rest s
def dL (P:Program) (draw:Bool) (all:Array Oper) (rest:List Oper) (K:St→Prop) (s:St):Prop:=∃ s',iz P draw all rest s s'∧K s'
def fin (P:Program) (draw:Bool) (all:Array Oper) (K:St→Prop):X→Prop
 | .run vc s=>vc∧K s
 | .stop vc rest s=>vc∧dL P draw all rest K s
theorem bC {s:St} {d:Option Tmp} (h:ay s d):∀ t,d=some t→t < s.n:=by
 rintro t rfl; exact h
theorem rL (all:Array Oper) (l:List Oper) (vc:Prop) (rest:List Oper) (s:St):tT T all l (.stop vc rest s) = .stop vc rest s:=by cases l<;>rfl
theorem lv (hT:∀ t ti,T t=some ti→bk P t=some ti) {draw:Bool} {all:Array Oper} {K:St→Prop} : ∀ (ops:List Oper) (vc:Prop) (s:St),fin P draw all K (tT T all ops (.run vc s))→vc∧dL P draw all ops K s
 | [],vc,s,h=>⟨h.1,s,.nil s,h.2⟩
 | o :: r,vc,s,h=>by
  simp only [tT,zZ] at h
  split at h
  ·rename_i hg
   split at h
   ·rename_i ov hov
    obtain ⟨⟨h1,h2,h3⟩,s',hr,hK⟩:=lv hT r _ _ h
    exact ⟨h1,s',.cons (.op s ov.av ov.H hg (bC h2) (cY hT hov h3).wp fun _=>DJ hT hov h3) hr,hK⟩
   rw [rL] at h; exact h
  ·rename_i hg
   obtain ⟨⟨h1,h2⟩,s',hr,hK⟩:=lv hT r _ _ h
   exact ⟨h1,s',.cons (.skip s hg (bC h2)) hr,hK⟩
  rw [rL] at h; exact h
theorem aa (hT:∀ t ti,T t=some ti→bk P t=some ti) {draw:Bool} {all:Array Oper} {rest:List Oper} {K:St→Prop} {s:St} (h:fin P draw all K (tT T all rest (.run True s))):dL P draw all rest K s:=
 (lv hT rest True s h).2
end
open Go.RowKit
def Holds (P:Program) (c:Code) (Q:Exit→St→Prop) (s:St):Prop:=
 ∀ (r:Option Nat) (ds:List Deferred) C m (a:Act) w,Rel C m s a.tmps w→a.defers=ds→rN r P c (fun e a' w'=>∃ s' m',Q e s'∧Rel C m' s' a'.tmps w'∧a'.defers=ds) a w
def EE (K:St→Prop) (Q:Exit→St→Prop):Exit→St→Prop
 | .normal,s=>K s
 | e,s=>Q e s
def EY (id:Nat) (Q:Exit→St→Prop):Exit→St→Prop
 | .exit j,s=>if j=id then Q .normal s else Q (.exit j) s
 | e,s=>Q e s
section
variable {P:Program} {Q:Exit→St→Prop} {s:St}
theorem H8 {K:St→Prop} (h:K s):EE K Q .normal s:=h
theorem Io {K:St→Prop} (h:Q .ret s):EE K Q .ret s:=h
theorem Ie {K:St→Prop} {id:Nat} (h:Q (.exit id) s):EE K Q (.exit id) s:=h
theorem HU {id:Nat} (h:Q .normal s):EY id Q .normal s:=h
theorem Is {id:Nat} (h:Q .ret s):EY id Q .ret s:=h
theorem H7 {id:Nat} (h:Q .normal s):EY id Q (.exit id) s:=by simp only [EY,if_true]; exact h
theorem Ic {id j:Nat} (hne:(j == id)=false) (h:Q (.exit j) s):EY id Q (.exit j) s:=by
 have:¬ j=id:=by simpa using hne
 simp only [EY,this,if_false]; exact h
theorem yn {c:Code} {Q' : Exit→St→Prop} (hq:∀ e s,Q e s→Q' e s) (h:Holds P c Q s):Holds P c Q' s:=
 fun r ds C m a w R hd=>eF (h r ds C m a w R hd) fun _ _ _ ⟨s',m',h1,h2⟩=>⟨s',m',hq _ _ h1,h2⟩
theorem Gp {x y:Code} (h:Holds P x (EE (Holds P y Q) Q) s):Holds P (.seq x y) Q s:=by
 intro r ds C m a w R hd
 refine C8 (eF (h r ds C m a w R hd) fun e a' w' ⟨s',m',h1,h2,h3⟩=>?_)
 cases e with
 | normal=>exact h1 r ds C m' a' w' h2 h3
 | _=>exact ⟨s',m',h1,h2,h3⟩
theorem AU {id:Nat} {c:Code} (h:Holds P c (EY id Q) s):Holds P (.block id c) Q s:=by
 intro r ds C m a w R hd
 refine ze (eF (h r ds C m a w R hd) fun e a' w' ⟨s',m',h1,h2,h3⟩=>?_)
 cases e with
 | exit j =>
  simp only [EY,Exit.inBlock] at h1 ⊢
  by_cases e:j=id
  ·rw [if_pos e] at h1 ⊢; exact ⟨s',m',h1,h2,h3⟩
  rw [if_neg e] at h1 ⊢; exact ⟨s',m',h1,h2,h3⟩
 | _=>exact ⟨s',m',h1,h2,h3⟩
theorem CZ (h:Q .normal s):Holds P .skip Q s:=fun _ _ _ m _ _ R hd=>BI ⟨s,m,h,R,hd⟩
theorem BC {l:Nat} (h:Q .normal s):Holds P (.label l) Q s:=fun _ _ _ m _ _ R hd=>zc ⟨s,m,h,R,hd⟩
theorem Cx {id:Nat} (h:Q (.exit id) s):Holds P (.exit id) Q s:=fun _ _ _ m _ _ R hd=>Ar ⟨s,m,h,R,hd⟩
theorem Hd (h:Q .ret s):Holds P .ret Q s:=fun _ _ _ m _ _ R hd=>Em ⟨s,m,h,R,hd⟩
def EP (s:St) (c:Operand):Option Bool:=
 match s.ev c with
 | .p (.bool b)=>some b
 | _=>none
theorem aq {c:Operand} {x y:Code} {b:Bool} (hc:EP s c=some b) (hx:b=true→Holds P x Q s) (hy:b=false→Holds P y Q s):Holds P (.cond c x y) Q s:=by
 intro r ds C m a w R hd
 have he:a.eval c = .bool b:=by
  have:=R.ev c
  unfold EP at hc
  split at hc<;>simp only [Option.some.injEq,reduceCtorEq] at hc
  rename_i b' hb
  rw [hb] at this
  rw [← hc]
  exact this.aN.fp
 exact qA he (fun h=>hx h r ds C m a w R hd) (fun h=>hy h r ds C m a w R hd)
theorem ab {id:Nat} {l:List Oper} (h:∀ K:St→Prop,(∀ s',Q .normal s'→K s')→dL P false l.toArray l K s):Holds P (.region id l.toArray false) Q s:=by
 intro r ds C m a w R hd
 obtain ⟨s',hr,hK⟩:=h (Q .normal) fun _ h=>h
 exact gu (hr.sound R hd fun m' a' w' R' hd'=>⟨s',m',hK,R',hd'⟩)
def IY (l:List Oper):Bool:=l.all fun o=>o.guard.isNone || !lO o.op
theorem aO {id:Nat} {l:List Oper} (hm:P.follows .mixedOrders=true) (hok:(tH l.toArray && IY l)=true) (h:∀ K:St→Prop,(∀ s',Q .normal s'→K s')→dL P true l.toArray l K s):Holds P (.region id l.toArray true) Q s:=by
 intro r ds C m a w R hd
 rw [Bool.and_eq_true] at hok
 obtain ⟨s',hr,hK⟩:=h (Q .normal) fun _ h=>h
 refine eM hm ?_
 refine wo hok.1 (fun o ho hg=>?_) hr (R.later ⟨rfl,rfl,rfl,Nat.le_refl _,fun _ _=>rfl,Nat.le_succ _⟩) hd fun m' a' w' R' hd'=>⟨s',m',hK,R',hd'⟩
 have:=(List.all_eq_true.1 hok.2) o ho
 cases hgu:o.guard with
 | none=>exact absurd hgu hg
 | some g=>rw [hgu] at this; simpa using this
def bn (n:Nat):AV→Bool
 | .sl k _ _=>k < n
 | .ptr k _=>k < n
 | .mptr k=>k < n
 | .sls k _ _ _=>k < n
 | .agg _=>false
 | .tup _=>false
 | .cl _ _=>false
 | .yv _ _ _=>false
 | _=>true
def bj (n:Nat):AV→Bool
 | .agg l=>l.all (bn n)
 | .tup l=>l.all (bn n)
 | .cl _ l=>l.all (bn n)
 | .yv k l _=>decide (k < n) && l.all (bn n)
 | x=>bn n x
def bg (π:List Nat):AV→AV
 | .sl k lo len=>.sl (π.getD k 0) lo len
 | .ptr k i=>.ptr (π.getD k 0) i
 | .mptr k=>.mptr (π.getD k 0)
 | .sls k lo len sz=>.sls (π.getD k 0) lo len sz
 | x=>x
def aY (π:List Nat):AV→AV
 | .agg l=>.agg (l.map (bg π))
 | .tup l=>.tup (l.map (bg π))
 | .cl f l=>.cl f (l.map (bg π))
 | .yv k l vs=>.yv (π.getD k 0) (l.map (bg π)) vs
 | x=>bg π x
def jr (π:List Nat):List (Nat × AV)→St→Prop
 | [],_=>True
 | (t,x) :: r,s=>s.get t=aY π x∧bj π.length x=true∧jr π r s
def dJ (π:List Nat) (H:az) (k:Nat):aH→Prop
 | .dead=>True
 | .own c=>(match aA H k with | .own d=>c.map (aY π)=d.take c.length∧c.all (bj π.length)=true | _=>False)
 | .fro c=>aA H k = .fro c
 | .mp kk d v=>aA H k = .mp kk d v
 | .lp r=>aA H k = .lp r
 | .bf i j=>aA H k = .bf i (π.getD j 0)∧j < π.length
def dQ (π:List Nat) (H:az):List Nat→az→Prop
 | [],[]=>True
 | k :: ks,b :: r=>dJ π H k b∧dQ π H ks r
 | _,_=>False
def Le (π:List Nat) (s1 s:St):Prop:=s1.n=s.n∧π.Nodup∧dQ π s.H π s1.H∧jr π s1.sl s
theorem jr.get {π:List Nat} : ∀ {l:List (Nat × AV)} {s:St},jr π l s→∀ t,lk l t = .dead∨(s.get t=aY π (lk l t)∧bj π.length (lk l t)=true)
 | [],s,_,t=>.inl rfl
 | (i,x) :: r,s,h,t=>by
  simp only [lk]
  cases e:(i == t)
  ·simp only [cond_false]; exact jr.get h.2.2 t
  simp only [cond_true]
  have:i=t:=by simpa using e
  subst this
  exact .inr ⟨h.1,h.2.1⟩
theorem dQ.get {π:List Nat} {H:az} : ∀ {ks:List Nat} {H1:az},dQ π H ks H1→ks.length=H1.length∧∀ (k:Nat) (b:aH),H1[k]? = some b→∃ k',ks[k]? = some k'∧dJ π H k' b
 | [],[],_=>⟨rfl,fun k b h=>by simp at h⟩
 | k0 :: ks,b0 :: r,h=>by
  obtain ⟨h1,h2⟩:=dQ.get h.2
  refine ⟨by simp [h1],fun k b hk=>?_⟩
  cases k with
  | zero=>simp at hk; subst hk; exact ⟨k0,rfl,h.1⟩
  | succ k=>simpa using h2 k b (by simpa using hk)
 | [],_ :: _,h=>h.elim
 | _ :: _,[],h=>h.elim
def bV (m:Map) (π:List Nat):Map:=fun k=>(π[k]?).bind m
theorem aG.ig {rd rd' : PV→Value→Prop} {m:Map} {H H1:az} {π:List Nat} (h1:∀ p v,rd p v→rd' p v) (hl1:H1.length=π.length) {x:AV} {v:Value} (h:aG rd m H (bg π x) v) (hs:bn π.length x=true):aG rd' (bV m π) H1 x v:=by
 cases x with
 | dead=>exact .dead v
 | p pv=>exact .p pv v (h1 _ _ h.aN)
 | sl k lo len =>
  have hk:k < π.length:=by simpa [bn] using hs
  simp only [bg,List.getD_eq_getElem?_getD,List.getElem?_eq_getElem hk,Option.getD_some] at h
  cases h with
  | sl _ _ _ _ _ h =>
   refine .sl k lo len v (by omega) ?_
   unfold CG bV at *
   rw [List.getElem?_eq_getElem hk]
   exact h
 | ptr k i =>
  have hk:k < π.length:=by simpa [bn] using hs
  simp only [bg,List.getD_eq_getElem?_getD,List.getElem?_eq_getElem hk,Option.getD_some] at h
  cases h with
  | ptr _ _ _ _ h =>
   refine .ptr k i v (by omega) ?_
   unfold xz bV at *
   rw [List.getElem?_eq_getElem hk]
   exact h
 | agg l=>simp [bn] at hs
 | tup l=>simp [bn] at hs
 | cl f l=>simp [bn] at hs
 | itv r=>cases h; exact .itv r
 | sls k lo len sz =>
  have hk:k < π.length:=by simpa [bn] using hs
  simp only [bg,List.getD_eq_getElem?_getD,List.getElem?_eq_getElem hk,Option.getD_some] at h
  cases h with
  | sls _ _ _ _ _ _ h =>
   refine .sls k lo len sz v (by omega) ?_
   unfold xO bV at *
   rw [List.getElem?_eq_getElem hk]
   exact h
 | mptr k =>
  have hk:k < π.length:=by simpa [bn] using hs
  simp only [bg,List.getD_eq_getElem?_getD,List.getElem?_eq_getElem hk,Option.getD_some] at h
  cases h with
  | mptr _ _ _ h =>
   refine .mptr k v (by omega) ?_
   unfold tM bV at *
   rw [List.getElem?_eq_getElem hk]
   exact h
 | yv k l vs=>simp [bn] at hs
theorem aG.rX {rd rd' : PV→Value→Prop} {m:Map} {H H1:az} {π:List Nat} (h1:∀ p v,rd p v→rd' p v) (hl1:H1.length=π.length) {x:AV} {v:Value} (h:aG rd m H (aY π x) v) (hs:bj π.length x=true):aG rd' (bV m π) H1 x v:=by
 cases x with
 | agg l =>
  simp only [aY,bj] at h hs
  cases h with
  | agg _ vs hl hr =>
   refine .agg l vs (by simpa using hl) fun c hc=>?_
   have:=hr c (by simpa using hc)
   rw [List.getElem_map] at this
   exact this.ig h1 hl1 ((List.all_eq_true.1 hs) _ (List.getElem_mem hc))
 | tup l =>
  simp only [aY,bj] at h hs
  cases h with
  | tup _ vs hl hr =>
   refine .tup l vs (by simpa using hl) fun c hc=>?_
   have:=hr c (by simpa using hc)
   rw [List.getElem_map] at this
   exact this.ig h1 hl1 ((List.all_eq_true.1 hs) _ (List.getElem_mem hc))
 | cl f l =>
  simp only [aY,bj] at h hs
  cases h with
  | cl _ _ vs hl hr =>
   refine .cl f l vs (by simpa using hl) fun c hc=>?_
   have:=hr c (by simpa using hc)
   rw [List.getElem_map] at this
   exact this.ig h1 hl1 ((List.all_eq_true.1 hs) _ (List.getElem_mem hc))
 | yv k l vs =>
  simp only [aY,bj,Bool.and_eq_true,decide_eq_true_eq] at h hs
  obtain ⟨hk,hs⟩:=hs
  simp only [List.getD_eq_getElem?_getD,List.getElem?_eq_getElem hk,Option.getD_some] at h
  cases h with
  | yv _ _ _ _ _ h hl hr =>
   refine .yv k l vs v (by omega) ?_ (by simpa using hl) fun c hc=>?_
   ·unfold Ec bV at *
    rw [List.getElem?_eq_getElem hk]
    exact h
   have:=hr c (by simpa using hc)
   rw [List.getElem_map] at this
   exact this.ig h1 hl1 ((List.all_eq_true.1 hs) _ (List.getElem_mem hc))
 | dead=>exact .dead v
 | p pv=>exact aG.ig h1 hl1 h hs
 | sl k lo len=>exact aG.ig h1 hl1 h hs
 | ptr k i=>exact aG.ig h1 hl1 h hs
 | mptr k=>exact aG.ig h1 hl1 h hs
 | itv r=>exact aG.ig h1 hl1 h hs
 | sls k lo len sz=>exact aG.ig h1 hl1 h hs
def aH.wr:aH→Bool
 | .own _=>true
 | .mp _ _ _=>true
 | .lp _=>true
 | _=>false
theorem dQ.own {π:List Nat} {H H1:az} (g2:∀ (k:Nat) (b:aH),H1[k]? = some b→∃ k',π[k]? = some k'∧dJ π H k' b):∀ (k:Nat) (c:List AV),H1[k]? = some (aH.own c)→∃ (k' : Nat) (d:List AV),π[k]? = some k'∧H[k']? = some (aH.own d)∧c.all (bj π.length)=true∧c.map (aY π)=d.take c.length:=by
 intro k c hk
 obtain ⟨k',a,b⟩:=g2 k _ hk
 unfold dJ at b
 simp only at b
 split at b
 ·rename_i d hd
  exact ⟨k',d,a,bE hd,b.2,b.1⟩
 exact b.elim
theorem OK.weaken {C:Ctx} {m:Map} {H H1:az} {π:List Nat} {w:World} (h3:dQ π H π H1):∀ b,OK C m H w b→OK C (bV m π) H1 w b:=by
 refine fun b hb=>⟨hb.1,hb.2.1,fun k c l hk hl=>?_⟩
 obtain ⟨k',d,a1,a2,a3,_⟩:=dQ.own (h3.get).2 k c hk
 simp only [bV,a1,Option.bind_some] at hl
 exact hb.2.2 k' _ l a2 hl
theorem Rel.oB {C C' : Ctx} {m:Map} {s1:St} {π:List Nat} {tmps tmps' : Array Value} {w:World} (R:Rel C m s tmps w) (e1:tmps'.size=s1.n) (hnd:π.Nodup) (h3:dQ π s.H π s1.H) (ho:∀ b,OK C m s.H w b→OK C' (bV m π) s1.H w b)
  (hbel:ca C'.B C'.w0 w) (hbase:∀ b,w.heap.size≤b→C'.B b) (hB:∀ (k:Nat) (b:aH) (l:Loc),s1.H[k]? = some b→b.wr=true→bV m π k=some l→C.B l.g→C'.B l.g)
  (hanc:∀ (k i j:Nat),s1.H[k]? = some (aH.bf i j)→j < s1.H.length∧bV m π j=C'.bf i) (hslot:∀ t,aG (Reads (OK C' (bV m π) s1.H w) w) (bV m π) s1.H (s1.get t) (tmps'.getD t undef)):Rel C' (bV m π) s1 tmps' w:=by
 obtain ⟨g1,g2⟩:=h3.get
 have own:=dQ.own g2
 have hr:∀ p v,Reads (OK C m s.H w) w p v→Reads (OK C' (bV m π) s1.H w) w p v:=fun p v h=>h.mono ho
 have zK:∀ (k:Nat) (kk:IntKind) (d:Int→Bool) (v:Int→PV),s1.H[k]? = some (aH.mp kk d v)→∃ k',π[k]? = some k'∧s.H[k']? = some (aH.mp kk d v):=by
  intro k kk d v hk
  obtain ⟨k',a,b⟩:=g2 k _ hk
  exact ⟨k',a,cd b (by simp)⟩
 refine ⟨R.laid.ext hr,hbel,hbase,e1,?_,?_,?_,hslot,fun k kk d v hk=>?_,fun k k' kk d v kk' d' v' l l' h1 h2 h3 h4 h5=>?_,hanc,?_⟩
 rotate_left 5
 ·have lps:∀ (k:Nat) (r:Loop),s1.H[k]? = some (aH.lp r)→∃ k',π[k]? = some k'∧s.H[k']? = some (aH.lp r):=by
   intro k r hk
   obtain ⟨k',a,b⟩:=g2 k _ hk
   exact ⟨k',a,cd b (by simp)⟩
  refine R.mp.2.2.2.ext (fun k=>π.getD k 0) (fun k r h=>?_) (fun k k' r r' h1 h2 e=>?_) (fun _ _ _ _ _ _=>rfl) fun k r l h hl h2=>hB k _ l h rfl hl h2
  ·obtain ⟨k',a1,a2⟩:=lps k r h
   have e:π.getD k 0=k':=by simp [List.getD,a1]
   exact ⟨by simp only [e]; exact a2,by simp only [bV,a1,Option.bind_some,e]⟩
  obtain ⟨j,a1,_⟩:=lps k r h1
  obtain ⟨j',b1,_⟩:=lps k' r' h2
  simp only [List.getD,a1,b1,Option.getD_some] at e
  obtain ⟨hk,hk2⟩:=List.getElem?_eq_some_iff.1 a1
  obtain ⟨hk',hk2'⟩:=List.getElem?_eq_some_iff.1 b1
  have hp:=List.pairwise_iff_getElem.1 hnd
  rcases Nat.lt_trichotomy k k' with h | h | h
  ·exact absurd (hk2.trans (e.trans hk2'.symm)) (hp k k' hk hk' h)
  ·exact h
  exact absurd (hk2'.trans (e.symm.trans hk2.symm)) (hp k' k hk' hk h)
 rotate_left 3
 ·obtain ⟨j,b1,b2⟩:=zK k kk d v hk
  have hm:bV m π k=m j:=by simp only [bV,b1,Option.bind_some]
  obtain ⟨l,ar,clk,vs,a1,a2,a3,a4,a5,a6,a7⟩:=R.mp.1 j kk d v b2
  exact ⟨l,ar,clk,vs,by rw [hm]; exact a1,hB k _ l hk rfl (by rw [hm]; exact a1) a2,a3,a4,a5,a6,fun z hz=>hr _ _ (a7 z hz)⟩
 ·obtain ⟨j,b1,b2⟩:=zK _ _ _ _ h1
  obtain ⟨j',c1,c2⟩:=zK _ _ _ _ h2
  simp only [bV,b1,c1,Option.bind_some] at h3 h4
  have:=R.mp.2.1 _ _ _ _ _ _ _ _ _ _ b2 c2 h3 h4 h5
  subst this
  obtain ⟨hk,hk2⟩:=List.getElem?_eq_some_iff.1 b1
  obtain ⟨hk',hk2'⟩:=List.getElem?_eq_some_iff.1 c1
  have hp:=List.pairwise_iff_getElem.1 hnd
  rcases Nat.lt_trichotomy k k' with h | h | h
  ·exact absurd (hk2.trans hk2'.symm) (hp k k' hk hk' h)
  ·exact h
  exact absurd (hk2'.trans hk2.symm) (hp k' k hk' hk h)
 ·intro k k' c c' l l' a1 a2 a3 a4 a5
  obtain ⟨j,_,b1,b2,_⟩:=own k c a1
  obtain ⟨j',_,b1',b2',_⟩:=own k' c' a2
  simp only [bV,b1,b1',Option.bind_some] at a3 a4
  have:=R.inj j j' _ _ l l' b2 b2' a3 a4 a5
  subst this
  obtain ⟨hk,hk2⟩:=List.getElem?_eq_some_iff.1 b1
  obtain ⟨hk',hk2'⟩:=List.getElem?_eq_some_iff.1 b1'
  have hp:=List.pairwise_iff_getElem.1 hnd
  rcases Nat.lt_trichotomy k k' with h | h | h
  ·exact absurd (hk2.trans hk2'.symm) (hp k k' hk hk' h)
  ·exact h
  exact absurd (hk2'.trans hk2.symm) (hp k' k hk' hk h)
 ·intro k c hk
  obtain ⟨k',d,a1,a2,bD,hcd⟩:=own k c hk
  have hm:bV m π k=m k':=by simp only [bV,a1,Option.bind_some]
  have hlen:c.length≤d.length:=by
   have:=congrArg List.length hcd
   simp only [List.length_map,List.length_take] at this
   omega
  rcases R.blk k' _ a2 with ⟨hc,hn⟩ | ⟨l,cur,e,b1,b2,b3,b4,b5,b6,b7⟩
  ·subst hc
   exact .inl ⟨List.eq_nil_of_length_eq_zero (by simpa using hlen),by rw [hm]; exact hn⟩
  refine .inr ⟨l,cur,e,by rw [hm]; exact b1,hB k _ l hk rfl (by rw [hm]; exact b1) b2,b3,b4,b5,by omega,fun j hj=>?_⟩
  have:=b7 j (by omega)
  have e:d[j]'(by omega)=aY π c[j]:=by
   have h3:(c.map (aY π))[j]? = (d.take c.length)[j]?:=by rw [hcd]
   rw [List.getElem?_map,List.getElem?_eq_getElem hj,List.getElem?_take,if_pos hj,List.getElem?_eq_getElem (by omega)] at h3
   simpa using h3.symm
  rw [e] at this
  exact this.rX hr g1.symm ((List.all_eq_true.1 bD) _ (List.getElem_mem hj))
 intro k c hk
 obtain ⟨k',a,b⟩:=g2 k _ hk
 have hm:bV m π k=m k':=by simp only [bV,a,Option.bind_some]
 rcases (R.fro k' c (gC b)).ext (m':=m) ho (fun _ _=>rfl) rfl with ⟨e1,e2⟩ | ⟨l,vs,e1,e2⟩
 ·exact .inl ⟨e1,by rw [hm]; exact e2⟩
 exact .inr ⟨l,vs,by rw [hm]; exact e1,e2⟩
theorem Rel.weaken {C:Ctx} {m:Map} {s1:St} {π:List Nat} {tmps:Array Value} {w:World} (R:Rel C m s tmps w) (h:Le π s1 s):Rel C (bV m π) s1 tmps w:=by
 obtain ⟨e1,hnd,h3,h2⟩:=h
 have ho:=OK.weaken (C:=C) (m:=m) (w:=w) h3
 obtain ⟨g1,g2⟩:=h3.get
 refine R.oB (by rw [e1]; exact R.size) hnd h3 ho R.below R.base (fun _ _ _ _ _ _ h=>h) (fun k i j hk=>?_) fun t=>?_
 ·obtain ⟨k',a,b⟩:=g2 k _ hk
  unfold dJ at b
  simp only at b
  obtain ⟨b1,b2⟩:=b
  obtain ⟨_,c2⟩:=R.mp.2.2.1 k' i _ (cd b1 (by simp))
  refine ⟨by omega,?_⟩
  rw [← c2]
  simp only [bV,List.getElem?_eq_getElem b2,Option.bind_some,List.getD_eq_getElem?_getD,Option.getD_some]
 rcases h2.get t with e | ⟨e,bD⟩
 ·unfold St.get; rw [e]; exact .dead _
 have:=R.slot t
 rw [e] at this
 exact this.rX (fun p v h=>h.mono ho) g1.symm bD
theorem pH {c:Code} {s1:St} (π:List Nat) (hle:Le π s1 s) (h:Holds P c Q s1):Holds P c Q s:=
 fun r ds C m a w R hd=>h r ds C _ a w (R.weaken hle) hd
theorem aD {c:Code} {ι:Type} (S:ι→St) (I:ι→Prop) (μ:ι→Nat) (i0:ι) (h0:I i0) (π:List Nat) (hs:Le π (S i0) s)
  (step:∀ i,I i→Holds P c (EE (fun s'=>∃ j π,I j∧μ j < μ i∧Le π (S j) s') Q) (S i)):Holds P (.loop c) Q s:=by
 intro r ds C m a w R hd
 let good:Nat→Act→World→Prop:=fun n a w=>∃ i m,I i∧μ i=n∧Rel C m (S i) a.tmps w∧a.defers=ds
 have least:∀ (p:Nat→Prop),(∃ n,p n)→∃ n,p n∧∀ k,p k→n≤k:=by
  intro p ⟨n,hn⟩
  induction n using Nat.strongRecOn with
  | _ n ih =>
   by_cases h:∃ k,k < n∧p k
   ·obtain ⟨k,hk,hp⟩:=h; exact ih k hk hp
   exact ⟨n,hn,fun k hp=>Nat.le_of_not_lt fun hk=>h ⟨k,hk,hp⟩⟩
 have hex:∀ a w,∃ n,(∃ k,good k a w)→good n a w∧∀ k,good k a w→n≤k:=by
  intro a w
  by_cases h:∃ k,good k a w
  ·obtain ⟨n,h1,h2⟩:=least _ h; exact ⟨n,fun _=>⟨h1,h2⟩⟩
  exact ⟨0,fun h'=>absurd h' h⟩
 let ms:Act→World→Nat:=fun a w=>Classical.choose (hex a w)
 have hms:∀ a w,(∃ k,good k a w)→good (ms a w) a w∧∀ k,good k a w→ms a w≤k:=fun a w=>Classical.choose_spec (hex a w)
 refine AP (fun a w=>∃ k,good k a w) ms ⟨μ i0,i0,_,h0,rfl,R.weaken hs,hd⟩ fun a w hg=>?_
 obtain ⟨⟨i,m,hI,hμ,R,hd⟩,_⟩:=hms a w hg
 refine eF (step i hI r ds C m a w R hd) fun e a' w' ⟨s',m',h1,h2,h3⟩=>?_
 cases e with
 | normal =>
  obtain ⟨j,π',hJ,hlt,hle⟩:=h1
  have hg' : good (μ j) a' w':=⟨j,_,hJ,rfl,h2.weaken hle,h3⟩
  exact ⟨⟨_,hg'⟩,by have:=(hms a' w' ⟨_,hg'⟩).2 _ hg'; rw [hμ] at hlt; omega⟩
 | _=>exact ⟨s',m',h1,h2,h3⟩
end
open Go.RowKit
def cg (H:az):AV→Option (Prop × PV × Bool)
 | .p v=>some (True,v,true)
 | .sl k lo len =>
  match aA H k with
  | .own c =>
   match e8 ((c.drop lo).take len) with
   | some ps=>some (lo + len≤c.length∧ps.all PV.one=true,.list ps,false)
   | none=>none
  | .fro c=>some (lo + len≤c.length∧((c.drop lo).take len).all PV.one=true,.list ((c.drop lo).take len),true)
  | .dead=>none
  | .mp _ _ _=>none
  | .bf _ _=>none
  | .lp _=>none
 | .ptr k i =>
  match aA H k with
  | .fro c=>some (i≤c.length,.ptr (c.drop i),true)
  | .own c =>
   match e8 (c.drop i) with
   | some ps=>some (i≤c.length,.ptr ps,false)
   | none=>none
  | .dead=>none
  | .mp _ _ _=>none
  | .bf _ _=>none
  | .lp _=>none
 | _=>none
def aU (f:AV→Option (Prop × PV × Bool)):List AV→Option (Prop × List PV × Bool)
 | []=>some (True,[],true)
 | x :: r =>
  match f x,aU f r with
  | some (p,v,b),some (q,l,c)=>some (p∧q,v :: l,b && c)
  | _,_=>none
def bH (H:az):AV→Option (Prop × PV × Bool)
 | .agg l=>match aU (cg H) l with | some (p,ps,b)=>some (p,.agg ps,b) | none=>none
 | .cl f l=>match aU (cg H) l with | some (p,ps,b)=>some (p,.fn f ps,b) | none=>none
 | x=>cg H x
def eW (H:az):AV→Option (Prop × PV × Bool)
 | .tup l=>match aU (bH H) l with | some (p,ps,b)=>some (p,.tup ps,b) | none=>none
 | x=>bH H x
section
variable {P:Program} {T:TypeId→Option TI} {C:Ctx} {m:Map} {s:St} {tmps:Array Value} {w:World}
def IG (okA:Nat→Prop) (w w' : World) (b:Nat):Prop:=(okA b∨w.heap.size≤b)∧b < w'.heap.size
def fresh (okA:Nat→Prop) (w:World):Ctx:=⟨okA,fun b=>w.heap.size≤b,w,fun _=>none⟩
def Jc (C:Ctx) (w:World) (b:Nat):Prop:=(C.okA b∨C.B b)∧b < w.heap.size
def rM (C:Ctx) (m:Map) (H:az) (w:World) (pv:PV) (b:Bool) (v:Value):Prop:=Reads (Jc C w) w pv v∧(b=true→Reads (OK C m H w) w pv v)
theorem wQ {H:az} (b:Nat) (h:OK C m H w b):Jc C w b:=⟨h.1,h.2.1⟩
theorem rM.of {H:az} {pv:PV} {b:Bool} {v:Value} (h:Reads (OK C m H w) w pv v):rM C m H w pv b v:=⟨h.mono (fun b hb=>wQ b hb),fun _=>h⟩
theorem kx {ok:Nat→Prop} {ps:List PV} {g o len cap:Nat} (hl:ps.length=len) (hone:ps.all PV.one=true) (hok:ok g) (hcap:len≤cap) (vs:Nat→Value)
  (hc:∀ j,j < len→w.cell? ⟨g,o + j,none⟩=some (vs j)) (hr:∀ j (h:j < ps.length),Reads ok w ps[j] (vs j)):Reads ok w (.list ps) (.slice (some ⟨g,o,none⟩) len cap):=by
 subst hl
 have hf:=dK hone
 refine .list ps g o cap 1 vs hok (fun x hx=>?_) hcap (fun c hcl=>?_) fun c hcl=>?_
 ·rw [cells_one ((List.all_eq_true.1 hone) x hx)]; rfl
 ·rw [hf] at hcl; exact hc c hcl
 simp only [hf] at hcl ⊢; exact hr c hcl
theorem kG (R:Rel C m s tmps w) {x:AV} {v:Value} (hv:aG (Reads (OK C m s.H w) w) m s.H x v) {p:Prop} {pv:PV} {b:Bool} (h:cg s.H x=some (p,pv,b)) (hp:p):rM C m s.H w pv b v:=by
 unfold cg at h
 split at h
 ·simp only [Option.some.injEq,Prod.mk.injEq] at h
  obtain ⟨_,rfl,rfl⟩:=h
  exact .of hv.aN
 ·rename_i k lo len
  cases hv with
  | sl _ _ _ _ hk hs =>
   split at h
   ·rename_i c hg
    split at h<;>simp only [Option.some.injEq,Prod.mk.injEq,reduceCtorEq] at h
    rename_i ps hps
    obtain ⟨rfl,rfl,rfl⟩:=h
    obtain ⟨h1,h2⟩:=hp
    have hcs:=gj hps
    have hlen:ps.length=len:=by
     have:=congrArg List.length hcs
     simp only [List.length_take,List.length_drop,List.length_map] at this
     omega
    refine ⟨?_,fun h=>by cases h⟩
    rcases hs with ⟨rfl,ad,rfl⟩ | ⟨l,cap,hm,rfl,hc1,hc2⟩
    ·have:ps=[]:=List.eq_nil_of_length_eq_zero hlen
     subst this
     exact .list0 _ _ fun _=>rfl
    rcases R.blk k c (bE hg) with ⟨_,hn⟩ | ⟨l',cur,e,hm2,hB,hh,hs1,hs3,hs2,hcells⟩
    ·rw [hm] at hn; cases hn
    rw [hm] at hm2; cases hm2
    refine kx hlen h2 ⟨.inr hB,(Array.getElem?_eq_some_iff.1 hh).1⟩ hc1 (fun j=>cur.getD (l.o + (lo + j)) undef) (fun j hj=>?_) fun j hj=>?_
    ·rw [Nat.add_assoc]; exact cell_of hh (by omega)
    have:=hcells (lo + j) (by omega)
    have e:c[lo + j]'(by omega) = .p ps[j]:=by
     have h3:((c.drop lo).take len)[j]? = (ps.map AV.p)[j]?:=by rw [hcs]
     rw [List.getElem?_take,if_pos (by omega),List.getElem?_drop,List.getElem?_eq_getElem (by omega),List.getElem?_map,List.getElem?_eq_getElem hj] at h3
     simpa using h3
    rw [e] at this
    exact this.aN.mono (fun b hb=>wQ b hb)
   ·rename_i c hg
    simp only [Option.some.injEq,Prod.mk.injEq] at h
    obtain ⟨rfl,rfl,rfl⟩:=h
    obtain ⟨h1,h2⟩:=hp
    have hlen:((c.drop lo).take len).length=len:=by simp only [List.length_take,List.length_drop]; omega
    refine .of ?_
    rcases hs with ⟨rfl,ad,rfl⟩ | ⟨l,cap,hm,rfl,hc1,hc2⟩
    ·simp only [List.take_zero]
     exact .list0 _ _ fun _=>rfl
    rcases R.fro k c (gC hg) with ⟨_,hn⟩ | ⟨l',vs,hm2,hB,hl,hcells⟩
    ·rw [hm] at hn; cases hn
    rw [hm] at hm2; cases hm2
    refine kx hlen h2 hB hc1 (fun j=>vs (lo + j)) (fun j hj=>?_) fun j hj=>?_
    ·rw [Nat.add_assoc]; exact (hcells (lo + j) (by omega)).1
    rw [hlen] at hj
    simp only [List.getElem_take,List.getElem_drop]
    exact (hcells (lo + j) (by omega)).2
   ·cases h
   ·cases h
   ·cases h
   cases h
 ·rename_i k i
  split at h
  ·rename_i c hg
   simp only [Option.some.injEq,Prod.mk.injEq] at h
   obtain ⟨rfl,rfl,rfl⟩:=h
   cases hv with
   | ptr _ _ _ hk hs =>
   obtain ⟨l,hm,rfl⟩:=hs
   rcases R.fro k c (gC hg) with ⟨_,hn⟩ | ⟨l',vs,hm2,hB,hl,hcells⟩
   ·rw [hm] at hn; cases hn
   rw [hm] at hm2; cases hm2
   refine .of (.ptr _ _ _ (fun j=>vs (i + j)) hB (fun j hj=>?_) fun j hj=>?_)
   ·simp only [List.length_drop] at hj
    rw [Nat.add_assoc]; exact (hcells (i + j) (by omega)).1
   simp only [List.length_drop] at hj
   simp only [List.getElem_drop]
   exact (hcells (i + j) (by omega)).2
  ·rename_i c hg
   split at h<;>simp only [Option.some.injEq,Prod.mk.injEq,reduceCtorEq] at h
   rename_i ps hps
   obtain ⟨rfl,rfl,rfl⟩:=h
   have hcs:=gj hps
   have hlen:ps.length=c.length - i:=by
    have:=congrArg List.length hcs
    simp only [List.length_drop,List.length_map] at this
    omega
   cases hv with
   | ptr _ _ _ hk hs =>
   obtain ⟨l,hm,rfl⟩:=hs
   refine ⟨?_,fun h=>by cases h⟩
   rcases R.blk k c (bE hg) with ⟨_,hn⟩ | ⟨l',cur,e,hm2,hB,hh,hs1,hs3,hs2,hcells⟩
   ·rw [hm] at hn; cases hn
   rw [hm] at hm2; cases hm2
   refine .ptr _ _ _ (fun j=>cur.getD (l.o + (i + j)) undef) ⟨.inr hB,(Array.getElem?_eq_some_iff.1 hh).1⟩ (fun j hj=>?_) fun j hj=>?_
   ·rw [Nat.add_assoc]; exact cell_of hh (by omega)
   have:=hcells (i + j) (by omega)
   have e:c[i + j]'(by omega) = .p ps[j]:=by
    have h3:(c.drop i)[j]? = (ps.map AV.p)[j]?:=by rw [hcs]
    rw [List.getElem?_drop,List.getElem?_eq_getElem (by omega),List.getElem?_map,List.getElem?_eq_getElem hj] at h3
    simpa using h3
   rw [e] at this
   exact this.aN.mono (fun b hb=>wQ b hb)
  ·cases h
  ·cases h
  ·cases h
  cases h
 cases h
theorem cP {f:AV→Option (Prop × PV × Bool)} {H:az} {R0:AV→Value→Prop} (hf:∀ {x v p pv b},R0 x v→f x=some (p,pv,b)→p→rM C m H w pv b v) :
  ∀ (l:List AV) (vs:Nat→Value) {p:Prop} {ps:List PV} {b:Bool},(∀ c (h:c < l.length),R0 l[c] (vs c))→aU f l=some (p,ps,b)→p→ps.length=l.length∧(∀ c (h:c < ps.length),Reads (Jc C w) w ps[c] (vs c))∧(b=true→∀ c (h:c < ps.length),Reads (OK C m H w) w ps[c] (vs c))
 | [],vs,p,ps,b,_,h,_=>by
  simp only [aU,Option.some.injEq,Prod.mk.injEq] at h
  obtain ⟨_,rfl,_⟩:=h
  exact ⟨rfl,fun c h=>by simp at h,fun _ c h=>by simp at h⟩
 | x :: r,vs,p,ps,b,hr,h,hp=>by
  simp only [aU] at h
  split at h<;>simp only [Option.some.injEq,Prod.mk.injEq,reduceCtorEq] at h
  rename_i p1 v1 b1 q1 l1 c1 h1 h2
  obtain ⟨rfl,rfl,rfl⟩:=h
  have a1:=hf (hr 0 (by simp)) h1 hp.1
  obtain ⟨e1,e2,e3⟩:=cP (R0:=R0) (f:=f) (fun h1 h2 h3=>hf h1 h2 h3) r (fun c=>vs (c + 1)) (fun c hc=>by have:=hr (c + 1) (by simpa using hc); simpa using this) h2 hp.2
  refine ⟨by simp [e1],fun c hc=>?_,fun hb c hc=>?_⟩
  ·cases c with
   | zero=>exact a1.1
   | succ c=>exact e2 c (by simpa using hc)
  rw [Bool.and_eq_true] at hb
  cases c with
  | zero=>exact a1.2 hb.1
  | succ c=>exact e3 hb.2 c (by simpa using hc)
theorem fb (R:Rel C m s tmps w) {x:AV} {v:Value} (hv:aG (Reads (OK C m s.H w) w) m s.H x v) {p:Prop} {pv:PV} {b:Bool} (h:bH s.H x=some (p,pv,b)) (hp:p):rM C m s.H w pv b v:=by
 unfold bH at h
 split at h
 ·rename_i l
  split at h<;>simp only [Option.some.injEq,Prod.mk.injEq,reduceCtorEq] at h
  rename_i p1 ps b1 hl
  obtain ⟨rfl,rfl,rfl⟩:=h
  cases hv with
  | agg _ vs hsz hr =>
   obtain ⟨e1,e2,e3⟩:=cP (fun {x v p pv b} (hx:aG (Reads (OK C m s.H w) w) m s.H x v) h hp=>kG R hx h hp) l (fun c=>vs.getD c undef) hr hl hp
   exact ⟨.agg _ _ (by omega) e2,fun hb=>.agg _ _ (by omega) (e3 hb)⟩
 ·rename_i f l
  split at h<;>simp only [Option.some.injEq,Prod.mk.injEq,reduceCtorEq] at h
  rename_i p1 ps b1 hl
  obtain ⟨rfl,rfl,rfl⟩:=h
  cases hv with
  | cl _ _ vs hsz hr =>
   obtain ⟨e1,e2,e3⟩:=cP (fun {x v p pv b} (hx:aG (Reads (OK C m s.H w) w) m s.H x v) h hp=>kG R hx h hp) l (fun c=>vs.getD c undef) hr hl hp
   exact ⟨.fn _ _ _ (by omega) e2,fun hb=>.fn _ _ _ (by omega) (e3 hb)⟩
 exact kG R hv h hp
theorem zD (R:Rel C m s tmps w) {x:AV} {v:Value} (hv:aG (Reads (OK C m s.H w) w) m s.H x v) {p:Prop} {pv:PV} {b:Bool} (h:eW s.H x=some (p,pv,b)) (hp:p):rM C m s.H w pv b v:=by
 unfold eW at h
 split at h
 ·rename_i l
  split at h<;>simp only [Option.some.injEq,Prod.mk.injEq,reduceCtorEq] at h
  rename_i p1 ps b1 hl
  obtain ⟨rfl,rfl,rfl⟩:=h
  cases hv with
  | tup _ vs hsz hr =>
   obtain ⟨e1,e2,e3⟩:=cP (fun {x v p pv b} (hx:aG (Reads (OK C m s.H w) w) m s.H x v) h hp=>fb R hx h hp) l (fun c=>vs.getD c undef) hr hl hp
   exact ⟨.tup _ _ (by omega) e2,fun hb=>.tup _ _ (by omega) (e3 hb)⟩
 exact fb R hv h hp
theorem jK {ok ok' : Nat→Prop} {w' : World} {p:PV} {v:Value} (h:Reads ok w p v) (hf:p.fz=true):Reads ok' w' p v:=by
 have sc:∀ {p:PV} {v:Value},Reads ok w p v→(match p with | .int _ _=>true | .bool _=>true | .str _=>true | _=>false)=true→Reads ok' w' p v:=by
  intro p v h hf
  cases h<;>simp at hf
  ·exact .int _ _
  ·exact .bool _
  exact .str _
 have ag:∀ {l:List PV} {vs:Array Value},Reads ok w (.agg l) (.agg vs)→(l.all fun | .int _ _=>true | .bool _=>true | .str _=>true | _=>false)=true→Reads ok' w' (.agg l) (.agg vs):=by
  intro l vs h hf
  cases h with
  | agg _ _ hl hr =>
   refine .agg _ _ hl fun c hc=>sc (hr c hc) ?_
   have:=(List.all_eq_true.1 hf) l[c] (List.getElem_mem hc)
   exact this
 cases h with
 | int k i=>exact .int _ _
 | bool b=>exact .bool _
 | str s=>exact .str _
 | nil=>exact .nil
 | agg l vs hl hr=>exact ag (.agg l vs hl hr) hf
 | tup l vs hl hr =>
  refine .tup _ _ hl fun c hc=>?_
  have h1:=(List.all_eq_true.1 hf) l[c] (List.getElem_mem hc)
  have h2:=hr c hc
  generalize l[c]=x at h1 h2 ⊢
  generalize vs.getD c undef=v at h2 ⊢
  cases h2 with
  | int k i=>exact .int _ _
  | bool b=>exact .bool _
  | str s=>exact .str _
  | agg l vs hl hr=>exact ag (.agg l vs hl hr) h1
  | _=>simp at h1
 | _=>simp [PV.fz] at hf
def Fj (P:Program) (g:FuncId):Prop:=∃ fn,P.funcs[g]? = some fn∧(fn.name == "runtime.NumGoroutine")=false∧fn.body.isNone=false
def ct (P:Program) (f:FuncId) (args:List PV) (r:PV):Prop:=
 Fj P f∧∀ (okA:Nat→Prop) (w:World) (vals:Array Value),nJ okA w→vals.size=args.length→(∀ i (h:i < args.length),Reads okA w args[i] (vals.getD i undef)) →
  Calls P f vals w fun e w'=>∃ v,e = .returned v∧Below w.heap.size w w'∧Reads (IG okA w w') w' r v
def da (s:St) (fo:Operand) (args:Array Operand):Option (FuncId × List PV × Prop × Bool):=
 match s.ev fo with
 | .p (.fn g cap) =>
  match aU (bH s.H) (args.toList.map s.ev) with
  | some (p,pvs,b)=>some (g,pvs++cap,p,b)
  | none=>none
 | _=>none
theorem n5 {s s2:St} {fo:Operand} {args:Array Operand} {ts:Array TypeId} (h:∀ x∈(Op.call { callee:=.value fo,args:=args,argTypes:=ts }).operands,s2.ev x=s.ev x) (hH:s2.H=s.H):da s2 fo args=da s fo args:=by
 simp only [Op.operands,Call.operands] at h
 have h1:s2.ev fo=s.ev fo:=h fo (by simp)
 have h2:args.toList.map s2.ev=args.toList.map s.ev:=List.map_congr_left fun x hx=>h x (by simp; right; simpa using hx)
 unfold da
 rw [h1,h2,hH]
theorem mV {o:Oper} {fo:Operand} {args:Array Operand} {ts:Array TypeId} (ho:o.op = .call { callee:=.value fo,args:=args,argTypes:=ts }) {g:FuncId} {avs:List PV} {p:Prop} {b:Bool} {r:PV}
  (hc:ct P g avs r) (hcall:da s fo args=some (g,avs,p,b)) (hp:p) (hb:(b || r.fz)=true):bu P o s (.p r) s.H:=by
 intro C m a w K Q R hK
 unfold da at hcall
 split at hcall
 ·rename_i g' cap hf
  split at hcall<;>simp only [Option.some.injEq,Prod.mk.injEq,reduceCtorEq] at hcall
  rename_i p' pvs b' hpl
  obtain ⟨rfl,rfl,rfl,rfl⟩:=hcall
  have hfv:=R.ev fo
  rw [hf] at hfv
  generalize hfe:a.eval fo=fv at hfv
  have hfv:=hfv.aN
  cases hfv with
  | fn _ _ vs hcl hcr =>
   obtain ⟨⟨fn,hfn,hnm,hbd⟩,hcalls⟩:=hc
   obtain ⟨e1,e2,e3⟩:=cP (C:=C) (m:=m) (w:=w) (H:=s.H) (fun {x v p pv b} (hx:aG (Reads (OK C m s.H w) w) m s.H x v) h hp=>fb R hx h hp) (args.toList.map s.ev) (fun c=>(args.toList.map a.eval).getD c undef) (fun c hc=>by
    simp only [List.length_map] at hc
    have:=R.ev (args.toList[c])
    simpa [List.getD,List.getElem?_map,List.getElem?_eq_getElem hc] using this) hpl hp
   simp only [List.length_map] at e1
   have hvals:∀ i (h:i < (pvs++cap).length),(args.map a.eval++vs).getD i undef=if i < pvs.length then (args.toList.map a.eval).getD i undef else vs.getD (i - pvs.length) undef:=by
    intro i hi
    simp only [Array.getD_eq_getD_getElem?]
    by_cases hip:i < pvs.length
    ·rw [if_pos hip,Array.getElem?_append_left (by simp at e1 ⊢; omega)]
     simp [List.getD]
    rw [if_neg hip,Array.getElem?_append_right (by simp at e1 ⊢; omega)]
    congr 2
    simp at e1 ⊢; omega
   have hrun:(execOp a.eval o).run P w = .ok (.enter g' (args.map a.eval++vs)) w:=by
    have hnm' : ¬ fn.name = "runtime.NumGoroutine":=by simpa using hnm
    have hbd' : ¬ fn.body=none:=by intro e; rw [e] at hbd; simp at hbd
    simp [execOp,ho,resolve,hfe,Deferred.ofValue,invoke,callFunc,hfn,hnm',hbd']
   refine aW (by rw [ho]; rfl) ?_
   unfold Oper.wp
   rw [hrun]
   simp only [Oper.upon]
   have hsz:(args.map a.eval++vs).size=(pvs++cap).length:=by simp at e1 ⊢; omega
   have done:∀ (okA:Nat→Prop),nJ okA w→(∀ i (h:i < (pvs++cap).length),Reads okA w (pvs++cap)[i] ((args.map a.eval++vs).getD i undef)) →
     (∀ w' v,Below w.heap.size w w'→Reads (IG okA w w') w' r v→Reads (OK C m s.H w') w' r v)→Calls P g' (args.map a.eval++vs) w fun
      | .returned v,w''=>K (a.put o.dst v) w''
      | .panicked chain,w''=>Q (.panic chain) a w''
      | .outgrown,_=>LetsOut Q:=by
    intro okA h1 h2 h3
    refine (hcalls okA w _ h1 hsz h2).mono fun e w' ⟨v,he,hbl,hv⟩=>?_
    subst he
    exact hK v m w' (R.later hbl) (.p _ _ (h3 w' v hbl hv))
   cases b' with
   | true =>
    refine done (OK C m s.H w) R.Ad (fun i hi=>?_) fun w' v hbl hv=>?_
    ·rw [hvals i hi]
     by_cases hip:i < pvs.length
     ·rw [if_pos hip,List.getElem_append_left hip]; exact e3 rfl i hip
     rw [if_neg hip,List.getElem_append_right (by omega)]; exact hcr _ (by simp at hi; omega)
    refine hv.mono fun b hb=>?_
    obtain ⟨hb1,hb2⟩:=hb
    rcases hb1 with hb1 | hb1
    ·exact Rel.Ai hbl b hb1
    refine ⟨.inr (R.base _ hb1),hb2,fun k c l hk hl e'=>?_⟩
    rcases R.blk k c hk with ⟨_,hn⟩ | ⟨l2,cur,e2,hl2,_,hg,_⟩
    ·rw [hl] at hn; cases hn
    rw [hl] at hl2; cases hl2
    have:=(Array.getElem?_eq_some_iff.1 hg).1
    have hb1:w.heap.size≤b:=hb1
    omega
   | false =>
    have hfl:r.fz=true:=by simpa using hb
    refine done (fun b=>b < w.heap.size) R.Ap (fun i hi=>?_) fun w' v hbl hv=>jK hv hfl
    rw [hvals i hi]
    by_cases hip:i < pvs.length
    ·rw [if_pos hip,List.getElem_append_left hip]; exact (e2 i hip).mono fun b hb=>hb.2
    rw [if_neg hip,List.getElem_append_right (by omega)]; exact (hcr _ (by simp at hi; omega)).mono fun b hb=>hb.2.1
 cases hcall
theorem Bn {o:Oper} {fo:Operand} {args:Array Operand} {ts:Array TypeId} (ho:o.op = .call { callee:=.value fo,args:=args,argTypes:=ts }) {g:FuncId} {avs:List PV} {p:Prop} {b:Bool} {r:PV}
  (hc:ct P g avs r) (hcall:da s fo args=some (g,avs,p,b)) (hp:p) (hb:(b || r.fz)=true):vg P o s (.p r) s.H:=by
 refine ⟨fun s2 hn ha hH=>?_,fun hf=>?_,fun _=>rfl⟩
 ·have:=n5 (ts:=ts) (s:=s) (s2:=s2) (fo:=fo) (args:=args) (by rw [← ho]; exact ha) hH
  rw [hcall] at this
  rw [← hH]
  exact mV ho hc this hp hb
 rw [ho] at hf; simp [jU] at hf
theorem au {draw:Bool} {all:Array Oper} {rest:List Oper} {K:St→Prop} {dst:Option Tmp} {ty:TypeId} {pos:String} {aft:Array Edge} {gd:Option (Nat × Bool)} {fo:Operand} {args:Array Operand} {ts:Array TypeId} {g:FuncId} {avs:List PV} {p:Prop} {b:Bool} {r:PV}
  (hc:ct P g avs r) (hg:a8 all s { dst:=dst,op:=.call { callee:=.value fo,args:=args,argTypes:=ts },type:=ty,pos:=pos,after:=aft,guard:=gd } = some true)
  (hcall:da s fo args=some (g,avs,p,b)) (hb:(b || r.fz)=true) (hd:ay s dst) (hp:p) (h:dL P draw all rest K (s.put dst (.p r))) :
  dL P draw all ({ dst:=dst,op:=.call { callee:=.value fo,args:=args,argTypes:=ts },type:=ty,pos:=pos,after:=aft,guard:=gd } :: rest) K s:=by
 obtain ⟨s',hr,hK⟩:=h
 exact ⟨s',.cons (.op s (.p r) s.H hg (bC hd) (mV rfl hc hcall hp hb) fun _=>Bn rfl hc hcall hp hb) hr,hK⟩
def tp:Nat→List PV→List (Nat × AV)
 | _,[]=>[]
 | k,a :: r=>(k,.p a) :: tp (k + 1) r
def entry (n:Nat) (args:List PV):St:=⟨n,tp 0 args,[]⟩
def kR (T:TypeId→Option TI) (s:St):ResultVar→Option (Prop × AV)
 | .tmp t=>some (True,s.get t)
 | .cell x t =>
  match T t with
  | some ti=>match jm ti s.H (s.get x) with | some r=>some (r.vc,r.av) | none=>none
  | none=>none
def dk (T:TypeId→Option TI) (s:St):List ResultVar→Option (Prop × List AV)
 | []=>some (True,[])
 | x :: r =>
  match kR T s x,dk T s r with
  | some (p,v),some (q,l)=>some (p∧q,v :: l)
  | _,_=>none
def bY (l:List AV):AV:=
 match l with
 | [x]=>x
 | l=>match e8 l with | some ps=>.p (.tup ps) | none=>.tup l
def PV.dU:PV→PV
 | .nil=>.list []
 | .nn l=>.list l
 | .nz=>.list []
 | p=>p
def PV.eS:PV→PV
 | .agg l=>.agg (l.map PV.dU)
 | p=>p.dU
def PV.norm:PV→PV
 | .tup l=>.tup (l.map PV.eS)
 | p=>p.eS
theorem nM {ok:Nat→Prop} {pv:PV} {v:Value} (h:Reads ok w pv v):Reads ok w pv.dU v:=by
 unfold PV.dU
 split
 ·exact h.o9
 ·exact h.iP
 ·cases h with
  | nz a cap=>exact .list0 _ _ fun h=>by cases h
 exact h
theorem nY {ok:Nat→Prop} {pv:PV} {v:Value} (h:Reads ok w pv v):Reads ok w pv.eS v:=by
 unfold PV.eS
 split
 ·cases h with
  | agg l vs hl hr =>
   refine .agg _ _ (by simpa using hl) fun c hc=>?_
   rw [List.getElem_map]
   exact nM (hr c (by simpa using hc))
 exact nM h
theorem wR {ok:Nat→Prop} {pv:PV} {v:Value} (h:Reads ok w pv v):Reads ok w pv.norm v:=by
 unfold PV.norm
 split
 ·cases h with
  | tup l vs hl hr =>
   refine .tup _ _ (by simpa using hl) fun c hc=>?_
   rw [List.getElem_map]
   exact nY (hr c (by simpa using hc))
 exact nY h
def jt (T:TypeId→Option TI) (rs:List ResultVar) (r:PV) (s:St):Prop:=
 match dk T s rs with
 | some (p,l)=>match eW s.H (bY l) with | some (q,pv,_)=>p∧q∧pv.norm=r | none=>False
 | none=>False
def eT (T:TypeId→Option TI) (rs:List ResultVar) (r:PV):Exit→St→Prop
 | .normal,s=>jt T rs r s
 | .ret,s=>jt T rs r s
 | _,_=>False
theorem wZ:∀ (l:List PV) (k t:Nat),lk (tp k l) t=if k≤t then (match l[t - k]? with | some a=>.p a | none=>.dead) else .dead
 | [],k,t=>by simp [tp,lk]
 | a :: r,k,t=>by
  simp only [tp,lk]
  by_cases h:k=t
  ·subst h; simp
  rw [show (k == t)=false by simpa using h]
  simp only [cond_false]
  rw [wZ r (k + 1) t]
  by_cases hk:k≤t
  ·rw [if_pos (by omega),if_pos hk,show t - k=(t - (k + 1)) + 1 by omega]; rfl
  rw [if_neg (by omega),if_neg hk]
def vF (tmps:Array Value):ResultVar→Sem Value
 | .tmp t=>pure (tmps.getD t undef)
 | .cell a t=>do loadVar t (← asAddr (tmps.getD a undef))
theorem eh (fn:Func) (tmps:Array Value):results fn tmps=(do
  let vs ← fn.results.mapM (vF tmps)
  pure (if h:vs.size=1 then vs[0] else .tuple vs)):=by
 unfold results
 have:(fun x=>match x with
  | .tmp t=>pure (tmps.getD t undef)
  | .cell a t=>do loadVar t (← asAddr (tmps.getD a undef)):ResultVar→Sem Value)=vF tmps:=by
  funext x; cases x<;>rfl
 rw [← this]
 rfl
theorem Ek (hT:∀ t ti,T t=some ti→bk P t=some ti) {a:Act} (R:Rel C m s a.tmps w) {x:ResultVar} {p:Prop} {av:AV} (h:kR T s x=some (p,av)) (hp:p) :
  ∃ v,(vF a.tmps x).run P w = .ok v w∧aG (Reads (OK C m s.H w) w) m s.H av v:=by
 cases x with
 | tmp t =>
  simp only [kR,Option.some.injEq,Prod.mk.injEq] at h
  obtain ⟨_,rfl⟩:=h
  exact ⟨_,rfl,R.slot t⟩
 | cell b t =>
  simp only [kR] at h
  split at h
  ·rename_i ti ht
   split at h<;>simp only [Option.some.injEq,Prod.mk.injEq,reduceCtorEq] at h
   rename_i r hr
   obtain ⟨rfl,rfl⟩:=h
   obtain ⟨_,v,hrun,hv⟩:=pI hT R (o:={ dst:=none,op:=.load t (.tmp b),type:=0,pos:="",after:=#[],guard:=none }) (x:=.tmp b) rfl ht (by simpa [St.ev] using hr) hp
   refine ⟨v,?_,hv⟩
   simp only [execOp,Instr.loadAt,Act.eval,Sem.run_bind] at hrun
   cases hpv:a.tmps.getD b undef with
   | pointer ad =>
    rw [hpv] at hrun
    cases ad with
    | some ad =>
     simp only [Instr.sureAddr,Sem.run_pure,Result.andThen_ok] at hrun
     simp only [vF,hpv,asAddr,Sem.run_bind,Sem.run_pure,Result.andThen_ok]
     cases hl:(loadVar t ad).run P w<;>rw [hl] at hrun<;>simp [Result.andThen] at hrun
     rw [hrun.1,hrun.2]
    | none=>simp [Instr.sureAddr] at hrun
   | _=>rw [hpv] at hrun; simp [Instr.sureAddr] at hrun
  cases h
theorem iK (hT:∀ t ti,T t=some ti→bk P t=some ti) {a:Act} (R:Rel C m s a.tmps w):∀ (l:List ResultVar) {p:Prop} {avs:List AV},dk T s l=some (p,avs)→p →
  ∃ vs:List Value,(l.mapM (vF a.tmps)).run P w = .ok vs w∧vs.length=avs.length∧∀ c (h:c < avs.length),aG (Reads (OK C m s.H w) w) m s.H avs[c] (vs.getD c undef)
 | [],p,avs,h,_=>by
  simp only [dk,Option.some.injEq,Prod.mk.injEq] at h
  obtain ⟨_,rfl⟩:=h
  exact ⟨[],rfl,rfl,fun c h=>by simp at h⟩
 | x :: r,p,avs,h,hp=>by
  simp only [dk] at h
  split at h<;>simp only [Option.some.injEq,Prod.mk.injEq,reduceCtorEq] at h
  rename_i p1 v1 q1 l1 h1 h2
  obtain ⟨rfl,rfl⟩:=h
  obtain ⟨v,e1,e2⟩:=Ek hT R h1 hp.1
  obtain ⟨vs,f1,f2,f3⟩:=iK hT R r h2 hp.2
  refine ⟨v :: vs,?_,by simp [f2],fun c hc=>?_⟩
  ·rw [List.mapM_cons]
   simp only [Sem.run_bind,e1,Result.andThen_ok,f1,Sem.run_pure]
  cases c with
  | zero=>exact e2
  | succ c=>simpa [List.getD] using f3 c (by simpa using hc)
theorem kH {ok:Nat→Prop} {H:az} {l:List AV} {vs:List Value} (hl:vs.length=l.length) (hr:∀ c (h:c < l.length),aG (Reads ok w) m H l[c] (vs.getD c undef)) :
  aG (Reads ok w) m H (bY l) (if h:vs.toArray.size=1 then vs.toArray[0] else .tuple vs.toArray):=by
 unfold bY
 split
 ·rename_i x
  match vs,hl with
  | [v],_=>simpa using hr 0 (by simp)
 rename_i hne
 have h1:¬ vs.toArray.size=1:=by
  intro e
  have:l.length=1:=by simp at e; omega
  obtain ⟨x,rfl⟩:=List.length_eq_one_iff.1 this
  exact hne x rfl
 rw [dif_neg h1]
 have hr' : ∀ c (h:c < l.length),aG (Reads ok w) m H l[c] (vs.toArray.getD c undef):=by
  intro c hc
  have:=hr c hc
  simpa [List.getD,Array.getD_eq_getD_getElem?] using this
 split
 ·rename_i ps hps
  have e:=gj hps
  subst e
  refine .p _ _ (.tup _ _ (by simpa using hl) fun c hc=>?_)
  have:=hr' c (by simpa using hc)
  simp only [List.getElem_map] at this
  exact this.aN
 exact .tup _ _ (by simpa using hl) hr'
theorem aV (hT:∀ t ti,T t=some ti→bk P t=some ti) {f:FuncId} {fn:Func} {c:Code} {args:List PV} {r:PV} (hf:P.funcs[f]? = some fn) (hb:fn.body=some c) (hnm:(fn.name == "runtime.NumGoroutine")=false) (hn:args.length≤fn.ntmps)
  (h:Holds P c (eT T fn.results.toList r) (entry fn.ntmps args)):ct P f args r:=by
 refine ⟨⟨fn,hf,hnm,by rw [hb]; rfl⟩,fun okA w vals hok hsz hrd=>calls_of_wp hf hb (fq.1 ?_)⟩
 have hslot:∀ t,(vals++Array.replicate (fn.ntmps - vals.size) undef).getD t undef=if t < vals.size then vals.getD t undef else undef:=by
  intro t
  simp only [Array.getD_eq_getD_getElem?]
  by_cases ht:t < vals.size
  ·rw [if_pos ht,Array.getElem?_append_left ht]
  rw [if_neg ht,Array.getElem?_append_right (by omega),Array.getElem?_replicate]
  split<;>rfl
 have R:Rel (fresh okA w) (fun _=>none) (entry fn.ntmps args) (vals++Array.replicate (fn.ntmps - vals.size) undef) w:=by
  have hOK:∀ b,okA b→OK (fresh okA w) (fun _=>none) [] w b:=fun b hb=>⟨.inl hb,hok.1 b hb,fun k c l h=>by simp at h⟩
  refine ⟨fun g l hg=>(hok.2 g l hg).mono hOK,ca.refl _ _,fun _ h=>h,by simp [entry]; omega,fun k k' c c' l l' h=>by simp [entry] at h,fun k c h=>by simp [entry] at h,fun k c h=>by simp [entry] at h,fun t=>?_,fun k kk d v h=>by simp [entry] at h,fun k k' kk d v kk' d' v' l l' h=>by simp [entry] at h,fun k i j h=>by simp [entry] at h,fun k r h=>by simp [entry] at h,fun k k' r r' l l' h=>by simp [entry] at h⟩
  rw [hslot]
  unfold St.get entry
  simp only
  rw [wZ]
  simp only [Nat.zero_le,if_true,Nat.sub_zero]
  by_cases ht:t < args.length
  ·rw [List.getElem?_eq_getElem ht,if_pos (by omega)]
   exact .p _ _ ((hrd t ht).mono hOK)
  rw [List.getElem?_eq_none (by omega)]
  exact .dead _
 refine eF (h none [] _ _ { tmps:=vals++Array.replicate (fn.ntmps - vals.size) undef,defers:=[] } w R rfl) fun e a' w' ⟨s',m',h1,h2,h3⟩=>?_
 have fini:jt T fn.results.toList r s'→a'.defers=[]∧∃ v,(results fn a'.tmps).run P w' = .ok v w'∧∃ v_1,Ending.returned v = .returned v_1∧Below w.heap.size w w'∧Reads (IG okA w w') w' r v_1:=by
  intro he
  unfold jt at he
  split at he
  ·rename_i p l hl
   split at he
   ·rename_i q pv b hpk
    obtain ⟨hp,hq,rfl⟩:=he
    obtain ⟨vs,e1,e2,e3⟩:=iK hT h2 fn.results.toList hl hp
    have hv:=kH (w:=w') e2 e3
    have hpv:=zD h2 hv hpk hq
    refine ⟨h3,_,?_,_,rfl,h2.below.below (fun _ h=>h),wR hpv.1⟩
    rw [eh,Array.mapM_eq_mapM_toList]
    simp only [Sem.run_bind,Sem.run_map]
    rw [e1]
    simp only [Result.andThen_ok]
    rfl
   exact he.elim
  exact he.elim
 cases e with
 | normal=>exact fini h1
 | ret=>exact fini h1
 | _=>exact h1.elim
end
open Go.RowKit
section
variable {P:Program} {T:TypeId→Option TI} {C:Ctx} {m:Map} {s:St} {tmps:Array Value} {w:World} {Q:Exit→St→Prop}
theorem Rel.freeze (R:Rel C m s tmps w) {k:Nat} {c:List AV} {ps:List PV} (hk:aA s.H k = .own c) (hc:e8 c=some ps):Rel C m { s with H:=aF s.H k (.fro ps) } tmps w:=by
 have hk:=bE hk
 have hkl:k < s.H.length:=(List.getElem?_eq_some_iff.1 hk).1
 have hcs:=gj hc
 have aA:∀ (j:Nat) (b:aH),(aF s.H k (.fro ps))[j]? = some b→(j=k∧b = .fro ps)∨(j ≠ k∧s.H[j]? = some b):=by
  intro j b h
  rw [bF] at h
  by_cases e:j=k
  ·rw [if_pos ⟨e,hkl⟩] at h; exact .inl ⟨e,(Option.some.inj h).symm⟩
  rw [if_neg (by simp [e])] at h; exact .inr ⟨e,h⟩
 have own:∀ (j:Nat) (d:List AV),(aF s.H k (.fro ps))[j]? = some (.own d)→j ≠ k∧s.H[j]? = some (.own d):=by
  intro j d h
  rcases aA j _ h with ⟨_,h⟩ | h
  ·cases h
  exact h
 have hok:∀ b,OK C m s.H w b→∀ j d l,(aF s.H k (.fro ps))[j]? = some (.own d)→m j=some l→l.g ≠ b:=fun b hb j d l h hl=>hb.2.2 j d l (own j d h).2 hl
 have ho:∀ b,OK C m s.H w b→OK C m (aF s.H k (.fro ps)) w b:=fun b h=>⟨h.1,h.2.1,hok b h⟩
 refine R.heap (ca.refl _ _) (by simp [aB]) (fun _ _=>rfl) hok (fun _ _=>rfl) ?_ ?_ ?_ (ma rfl)
 ·exact fun j j' c1 c2 l1 l2 h1 h2 h3 h4 h5=>R.inj j j' c1 c2 l1 l2 (own j _ h1).2 (own j' _ h2).2 h3 h4 h5
 ·exact fun j d h=>(R.blk j d (own j d h).2).ext (fun p v h=>h.ext ho fun _ _=>rfl) (by simp [aB]) (fun _ _=>rfl) rfl fun _ _=>rfl
 intro j d h
 rcases aA j _ h with ⟨rfl,h'⟩ | ⟨hne,h⟩
 ·cases h'
  rcases R.blk j c hk with ⟨hc0,hn⟩ | ⟨l,cur,e,hl,hB,hg,h1,h2,h3,hcells⟩
  ·subst hc0
   exact .inl ⟨by simpa using hcs,hn⟩
  have hlen:c.length=ps.length:=by rw [hcs]; simp
  refine .inr ⟨l,fun i=>cur.getD (l.o + i) undef,hl,⟨.inr hB,(Array.getElem?_eq_some_iff.1 hg).1,fun j' d' l' h' hl' e'=>?_⟩,by omega,fun i hi=>⟨cell_of hg (by omega),?_⟩⟩
  ·obtain ⟨h1,h2⟩:=own j' d' h'
   exact h1 (R.inj j' j d' c l' l h2 hk hl' hl e')
  have:=hcells i (by omega)
  have e:c[i]'(by omega) = .p ps[i]:=by simp [hcs]
  rw [e] at this
  exact this.aN.mono ho
 exact (R.fro j d h).ext ho (fun _ _=>rfl) rfl
theorem er {c:Code} (k:Nat) {b:List AV} {ps:List PV} (hk:aA s.H k = .own b) (hc:e8 b=some ps) (h:Holds P c Q { s with H:=aF s.H k (.fro ps) }):Holds P c Q s:=
 fun r ds C m a w R hd=>h r ds C m a w (R.freeze hk hc) hd
theorem Rel.pure (R:Rel C m s tmps w) {t:Nat} {p:Prop} {pv:PV} (h:bH s.H (s.get t)=some (p,pv,true)) (hp:p):Rel C m { s with sl:=(t,.p pv) :: s.sl } tmps w:=by
 refine ⟨R.laid,R.below,R.base,R.size,R.inj,R.blk,R.fro,fun t'=>?_,R.mp⟩
 by_cases e:t=t'
 ·subst e
  have e2:({ s with sl:=(t,AV.p pv) :: s.sl } : St).get t = .p pv:=by simp [St.get,lk]
  rw [e2]
  exact .p _ _ ((fb R (R.slot t) h hp).2 rfl)
 have e2:({ s with sl:=(t,AV.p pv) :: s.sl } : St).get t' = s.get t':=by simp [St.get,lk,show (t == t')=false by simpa using e]
 rw [e2]
 exact R.slot t'
theorem sB {c:Code} (t:Nat) {p:Prop} {pv:PV} (hk:bH s.H (s.get t)=some (p,pv,true)) (hp:p) (h:Holds P c Q { s with sl:=(t,.p pv) :: s.sl }):Holds P c Q s:=
 fun r ds C m a w R hd=>h r ds C m a w (R.pure hk hp) hd
theorem Gz (k:IntKind) (i:Int):(PV.int k i).cells=[.int k i]:=rfl
theorem CJ (b:Bool):(PV.bool b).cells=[.bool b]:=rfl
theorem G8 (b:ByteArray):(PV.str b).cells=[.str b]:=rfl
theorem CW (l:List PV):(PV.list l).cells=[.list l]:=rfl
theorem HE (l:List PV):(PV.nn l).cells=[.nn l]:=rfl
theorem F2:PV.nil.cells=[.nil]:=rfl
theorem F6 (l:List PV):(PV.agg l).cells=l:=rfl
theorem FN (l:List PV):(PV.ptr l).cells=[.ptr l]:=rfl
theorem HD (f:FuncId) (l:List PV):(PV.fn f l).cells=[.fn f l]:=rfl
theorem Ho:(true == true)=true:=rfl
theorem F9:(true == false)=false:=rfl
theorem FC:(false == true)=false:=rfl
theorem Fe:(false == false)=true:=rfl
theorem af {draw:Bool} {all:Array Oper} {K:St→Prop} {vc:Prop} (h1:vc) (h2:K s):fin P draw all K (.run vc s):=⟨h1,h2⟩
theorem ao {draw:Bool} {all:Array Oper} {K:St→Prop} {vc:Prop} {r:List Oper} (h1:vc) (h2:dL P draw all r K s):fin P draw all K (.stop vc r s):=⟨h1,h2⟩
theorem wI {x y:Code} {Q2:Exit→St→Prop} (S:St) (h1:Holds P x (fun e s'=>e = .normal∧∃ π,Le π S s') s) (h2:Holds P y Q2 S):Holds P x (EE (Holds P y Q2) Q) s:=by
 refine yn (fun e s' h=>?_) h1
 obtain ⟨rfl,π,h⟩:=h
 exact pH π h h2
def il (w:List Int):List PV:=w.map (PV.int .i64)
theorem aw (w:List Int):(il w).length=w.length:=by simp [il]
theorem aL {w:List Int} {i:Nat} (h:i < w.length):(il w).getD i default = .int .i64 (w.getD i 0):=by
 simp [il,List.getD,List.getElem?_eq_getElem h]
theorem ij (w:List Int):(il w).all PV.one=true:=by
 simp [il,PV.one]
theorem BV (w:List Int):(il w).all (fun x=>x.cells.length == 1)=true:=by
 simp [il,PV.cells]
theorem sx (w:List Int) (n:Nat):(il w).take n=il (w.take n):=by simp [il]
theorem CU (w:List Int) (n:Nat):(il w).drop n=il (w.drop n):=by simp [il]
theorem Db (x:Int) (w:List Int):il (x :: w) = .int .i64 x :: il w:=rfl
def ol (w:List Int):List AV:=(il w).map .p
theorem dg (w:List Int):(ol w).length=w.length:=by simp [ol,il]
theorem bt {w:List Int} {i:Nat} (h:i < w.length) (d:AV):(ol w).getD i d = .p (.int .i64 (w.getD i 0)):=by
 simp [ol,il,List.getD,List.getElem?_eq_getElem h]
theorem oG (w:List Int) (n:Nat):(ol w).take n=ol (w.take n):=by simp [ol,il]
theorem oO (w:List Int) (n:Nat):(ol w).drop n=ol (w.drop n):=by simp [ol,il]
theorem zx (v w:List Int):ol v++ol w=ol (v++w):=by simp [ol,il]
theorem DM (v:List Int) (x:Int):ol v++[.p (.int .i64 x)]=ol (v++[x]):=by simp [ol,il]
theorem Co:ol []=[]:=rfl
theorem CO (x:Int) (w:List Int):ol (x :: w) = .p (.int .i64 x) :: ol w:=rfl
theorem HG (w:List Int):(ol w).all bm=true:=by simp [ol,il,bm,PV.one]
theorem nC (w:List Int) (π:List Nat):(ol w).map (Go.Pv.aY π)=ol w:=by simp [ol,il,Go.Pv.aY,bg]
theorem fG (w:List Int) (n:Nat):(ol w).all (bj n)=true:=by simp [ol,il,bj,bn]
theorem jg (w:List Int):e8 (ol w)=some (il w):=by
 induction w with
 | nil=>rfl
 | cons x r ih=>simp only [CO,e8,ih,Option.map_some,Db]
theorem Ij (w:List Int):(il w).map AV.p=ol w:=rfl
theorem cH {w:List Int} {i:Nat} (x:Int):(ol w).set i (.p (.int .i64 x))=ol (w.set i x):=by
 simp [ol,il,List.map_set]
theorem dX {α:Type} (l:List α):l.take l.length=l:=List.take_length
theorem aX {α:Type} (l:List α) (n:Nat):l.take (l.take n).length=l.take n:=by
 rw [List.length_take,Nat.min_def]; split
 ·rfl
 rw [List.take_of_length_le (Nat.le_refl _),List.take_of_length_le (by omega)]
theorem bM {α:Type} (l:List α) (x:α):(l++[x]).take (l.length + 1)=l++[x]:=by
 rw [List.take_of_length_le (by simp)]
theorem bN {α:Type} (l r:List α):(l++r).take (l.length + r.length)=l++r:=by
 rw [List.take_of_length_le (by simp)]
theorem qX {α:Type} (l:List α) (n:Nat):(l.drop n).take (l.length - n)=l.drop n:=List.take_of_length_le (by simp)
theorem Hb (m n:Nat):Int.tmod (m:Int) (n:Int)=((m % n:Nat):Int):=rfl
theorem GK (m n:Nat):Int.tdiv (m:Int) (n:Int)=((m / n:Nat):Int):=rfl
theorem Dz (a:Nat):((a:Int) - 1).toNat=a - 1:=by omega
theorem Ej (a:Nat):((a:Int) + 1).toNat=a + 1:=by omega
theorem FJ (a b:Nat):((a:Int) - (b:Int)).toNat=a - b:=by omega
structure Gg (C:Ctx) (m:Map) (H:az) (w:World) (av:AV) (v:Value):Prop where
 inj:∀ (k k' : Nat) (c c' : List AV) l l',H[k]? = some (aH.own c)→H[k']? = some (aH.own c')→m k=some l→m k' = some l'→l.g=l'.g→k=k'
 blk:∀ (k:Nat) (c:List AV),H[k]? = some (aH.own c)→nB C.B (Reads (OK C m H w) w) m H w k c
 fro:∀ (k:Nat) (c:List PV),H[k]? = some (aH.fro c)→nt (OK C m H w) w m k c
 val:aG (Reads (OK C m H w) w) m H av v
def wz (P:Program) (f:FuncId) (args:List PV) (av:AV) (H:az):Prop:=
 Fj P f∧∀ (okA:Nat→Prop) (w:World) (vals:Array Value),nJ okA w→vals.size=args.length→(∀ i (h:i < args.length),Reads okA w args[i] (vals.getD i undef)) →
  Calls P f vals w fun e w'=>∃ v m',e = .returned v∧Below w.heap.size w w'∧Gg (fresh okA w) m' H w' av v
def gq (T:TypeId→Option TI) (rs:List ResultVar) (av:AV) (H:az) (s:St):Prop:=
 match dk T s rs with
 | some (p,l)=>p∧∃ π,bY l=aY π av∧bj π.length av=true∧Le π ⟨s.n,[],H⟩ s
 | none=>False
def eR (T:TypeId→Option TI) (rs:List ResultVar) (av:AV) (H:az):Exit→St→Prop
 | .normal,s=>gq T rs av H s
 | .ret,s=>gq T rs av H s
 | _,_=>False
theorem yT {P:Program} {f:FuncId} {fn:Func} {args:List PV} {okA:Nat→Prop} {w:World} {vals:Array Value} (_hf:P.funcs[f]? = some fn) (hn:args.length≤fn.ntmps) (hok:nJ okA w) (hsz:vals.size=args.length) (hrd:∀ i (h:i < args.length),Reads okA w args[i] (vals.getD i undef)) :
  Rel (fresh okA w) (fun _=>none) (entry fn.ntmps args) (vals++Array.replicate (fn.ntmps - vals.size) undef) w:=by
 have hslot:∀ t,(vals++Array.replicate (fn.ntmps - vals.size) undef).getD t undef=if t < vals.size then vals.getD t undef else undef:=by
  intro t
  simp only [Array.getD_eq_getD_getElem?]
  by_cases ht:t < vals.size
  ·rw [if_pos ht,Array.getElem?_append_left ht]
  rw [if_neg ht,Array.getElem?_append_right (by omega),Array.getElem?_replicate]
  split<;>rfl
 have hOK:∀ b,okA b→OK (fresh okA w) (fun _=>none) [] w b:=fun b hb=>⟨.inl hb,hok.1 b hb,fun k c l h=>by simp at h⟩
 refine ⟨fun g l hg=>(hok.2 g l hg).mono hOK,ca.refl _ _,fun _ h=>h,by simp [entry]; omega,fun k k' c c' l l' h=>by simp [entry] at h,fun k c h=>by simp [entry] at h,fun k c h=>by simp [entry] at h,fun t=>?_,fun k kk d v h=>by simp [entry] at h,fun k k' kk d v kk' d' v' l l' h=>by simp [entry] at h,fun k i j h=>by simp [entry] at h,fun k r h=>by simp [entry] at h,fun k k' r r' l l' h=>by simp [entry] at h⟩
 rw [hslot]
 unfold St.get entry
 simp only
 rw [wZ]
 simp only [Nat.zero_le,if_true,Nat.sub_zero]
 by_cases ht:t < args.length
 ·rw [List.getElem?_eq_getElem ht,if_pos (by omega)]
  exact .p _ _ ((hrd t ht).mono hOK)
 rw [List.getElem?_eq_none (by omega)]
 exact .dead _
theorem nc (hT:∀ t ti,T t=some ti→bk P t=some ti) {f:FuncId} {fn:Func} {c:Code} {args:List PV} {av:AV} {H:az} (hf:P.funcs[f]? = some fn) (hb:fn.body=some c) (hnm:(fn.name == "runtime.NumGoroutine")=false) (hn:args.length≤fn.ntmps)
  (h:Holds P c (eR T fn.results.toList av H) (entry fn.ntmps args)):wz P f args av H:=by
 refine ⟨⟨fn,hf,hnm,by rw [hb]; rfl⟩,fun okA w vals hok hsz hrd=>calls_of_wp hf hb (fq.1 ?_)⟩
 have R:=yT hf hn hok hsz hrd
 refine eF (h none [] _ _ { tmps:=vals++Array.replicate (fn.ntmps - vals.size) undef,defers:=[] } w R rfl) fun e a' w' ⟨s',m',h1,h2,h3⟩=>?_
 have fini:gq T fn.results.toList av H s'→a'.defers=[]∧∃ v,(results fn a'.tmps).run P w' = .ok v w'∧∃ v_1 m'',Ending.returned v = .returned v_1∧Below w.heap.size w w'∧Gg (fresh okA w) m'' H w' av v_1:=by
  intro he
  unfold gq at he
  split at he
  ·rename_i p l hl
   obtain ⟨hp,π,hav,bD,hle⟩:=he
   obtain ⟨vs,e1,e2,e3⟩:=iK hT h2 fn.results.toList hl hp
   have hv:=kH (w:=w') e2 e3
   have R':=h2.weaken hle
   rw [hav] at hv
   have hlen:H.length=π.length:=(hle.2.2.1.get).1.symm
   have ho:∀ b,OK (fresh okA w) m' s'.H w' b→OK (fresh okA w) (bV m' π) H w' b:=by
    refine fun b hb=>⟨hb.1,hb.2.1,fun k c l hk hl=>?_⟩
    obtain ⟨k',a,b'⟩:=(hle.2.2.1.get).2 k _ hk
    simp only [bV,a,Option.bind_some] at hl
    unfold dJ at b'
    simp only at b'
    split at b'
    ·rename_i d hd
     exact hb.2.2 k' _ l (bE hd) hl
    exact b'.elim
   refine ⟨h3,_,?_,_,_,rfl,h2.below.below (fun _ h=>h),R'.inj,R'.blk,R'.fro,hv.rX (fun p v h=>h.mono ho) hlen bD⟩
   rw [eh,Array.mapM_eq_mapM_toList]
   simp only [Sem.run_bind,Sem.run_map]
   rw [e1]
   simp only [Result.andThen_ok]
   rfl
  exact he.elim
 cases e with
 | normal=>exact fini h1
 | ret=>exact fini h1
 | _=>exact h1.elim
def nO (n len:Nat):List Nat:=List.range' n len
def aH.aY (π:List Nat):aH→aH
 | .own c=>.own (c.map (Go.Pv.aY π))
 | b=>b
theorem mz {n len k:Nat} (h:k < len):(nO n len).getD k 0=n + k:=by
 simp [nO,List.getD,h]
theorem aG.shift {rd rd' : PV→Value→Prop} {m m2:Map} {H H2:az} {n:Nat} (h1:∀ p v,rd p v→rd' p v) (h2:n + H.length≤H2.length) (hm:∀ k,k < H.length→m2 (n + k)=m k) {x:AV} {v:Value} (h:aG rd m H x v)
  (hx:bj H.length x=true):aG rd' m2 H2 (Go.Pv.aY (nO n H.length) x) v:=by
 have one:∀ {x:AV} {v:Value},aG rd m H x v→bn H.length x=true→aG rd' m2 H2 (bg (nO n H.length) x) v:=by
  intro x v h hs
  cases h with
  | dead v=>exact .dead v
  | p pv v h=>exact .p pv v (h1 _ _ h)
  | sl k lo len v hk h =>
   simp only [bg,mz hk]
   refine .sl _ lo len v (by omega) ?_
   unfold CG at *
   rw [hm k hk]; exact h
  | ptr k i v hk h =>
   simp only [bg,mz hk]
   refine .ptr _ i v (by omega) ?_
   unfold xz at *
   rw [hm k hk]; exact h
  | agg l vs hl hr=>simp [bn] at hs
  | tup l vs hl hr=>simp [bn] at hs
  | cl f l vs hl hr=>simp [bn] at hs
  | itv r=>exact .itv r
  | sls k lo len sz v hk h =>
   simp only [bg,mz hk]
   refine .sls _ lo len sz v (by omega) ?_
   unfold xO at *
   rw [hm k hk]; exact h
  | mptr k v hk h =>
   simp only [bg,mz hk]
   refine .mptr _ v (by omega) ?_
   unfold tM at *
   rw [hm k hk]; exact h
  | yv k l vs v hk h hl hr=>simp [bn] at hs
 cases x with
 | agg l =>
  cases h with
  | agg _ vs hl hr =>
   refine .agg _ vs (by simpa using hl) fun c hc=>?_
   rw [List.length_map] at hc
   rw [List.getElem_map]
   exact one (hr c hc) ((List.all_eq_true.1 hx) _ (List.getElem_mem hc))
 | tup l =>
  cases h with
  | tup _ vs hl hr =>
   refine .tup _ vs (by simpa using hl) fun c hc=>?_
   rw [List.length_map] at hc
   rw [List.getElem_map]
   exact one (hr c hc) ((List.all_eq_true.1 hx) _ (List.getElem_mem hc))
 | cl f l =>
  cases h with
  | cl _ _ vs hl hr =>
   refine .cl _ _ vs (by simpa using hl) fun c hc=>?_
   rw [List.length_map] at hc
   rw [List.getElem_map]
   exact one (hr c hc) ((List.all_eq_true.1 hx) _ (List.getElem_mem hc))
 | yv k l vs =>
  simp only [bj,Bool.and_eq_true,decide_eq_true_eq] at hx
  cases h with
  | yv _ _ _ _ hk h hl hr =>
   simp only [Go.Pv.aY,mz hk]
   refine .yv _ _ vs v (by omega) ?_ (by simpa using hl) fun c hc=>?_
   ·unfold Ec at *
    rw [hm k hk]; exact h
   rw [List.length_map] at hc
   rw [List.getElem_map]
   exact one (hr c hc) ((List.all_eq_true.1 hx.2) _ (List.getElem_mem hc))
 | dead=>exact .dead v
 | p pv=>exact one h hx
 | sl k lo len=>exact one h hx
 | ptr k i=>exact one h hx
 | mptr k=>exact one h hx
 | itv r=>exact one h hx
 | sls k lo len sz=>exact one h hx
def HA (av:AV) (H:az):Bool:=
 bj H.length av && H.all fun | .own c=>c.all (bj H.length) | .mp _ _ _=>false | .bf _ _=>false | .lp _=>false | _=>true
theorem Rel.join {okA:Nat→Prop} (R:Rel C m s tmps w) {w' : World} {m' : Map} {av:AV} {H:az} {v:Value} (hA:∀ b,okA b→OK C m s.H w b) (hbl:Below w.heap.size w w') (ho:Gg (fresh okA w) m' H w' av v) (bD:HA av H=true) :
  ∃ m2,Rel C m2 { s with H:=s.H++H.map (aH.aY (nO s.H.length H.length)) } tmps w' ∧
   aG (Reads (OK C m2 (s.H++H.map (aH.aY (nO s.H.length H.length))) w') w') m2 (s.H++H.map (aH.aY (nO s.H.length H.length))) (Go.Pv.aY (nO s.H.length H.length) av) v:=by
 obtain ⟨hsa,hsb⟩:=Bool.and_eq_true _ _ ▸ bD
 let H2:=s.H++H.map (aH.aY (nO s.H.length H.length))
 let m2:Map:=fun k=>if k < s.H.length then m k else m' (k - s.H.length)
 have hmo:∀ k,k < s.H.length→m2 k=m k:=fun k h=>by simp [m2,h]
 have hmn:∀ k,m2 (s.H.length + k)=m' k:=fun k=>by
  show (if _ then _ else _)=_
  rw [if_neg (by omega),Nat.add_sub_cancel_left]
 have hlt:∀ (k:Nat) (c' : List AV) l,s.H[k]? = some (aH.own c')→m k=some l→l.g < w.heap.size:=by
  intro k c' l h hl
  rcases R.blk k c' h with ⟨_,hn⟩ | ⟨l',cur',e',hl',hB,hg',_⟩
  ·rw [hl] at hn; cases hn
  rw [hl] at hl'; cases hl'
  exact (Array.getElem?_eq_some_iff.1 hg').1
 have hge:∀ (k:Nat) (c' : List AV) l,H[k]? = some (aH.own c')→m' k=some l→w.heap.size≤l.g:=by
  intro k c' l h hl
  rcases ho.blk k c' h with ⟨_,hn⟩ | ⟨l',cur',e',hl',hB,hg',_⟩
  ·rw [hl] at hn; cases hn
  rw [hl] at hl'; cases hl'
  exact hB
 have aA:∀ (k:Nat) (b:aH),H2[k]? = some b→(k < s.H.length∧s.H[k]? = some b)∨∃ j b',k=s.H.length + j∧H[j]? = some b'∧b=b'.aY (nO s.H.length H.length):=by
  intro k b h
  by_cases hk:k < s.H.length
  ·exact .inl ⟨hk,by rwa [List.getElem?_append_left hk] at h⟩
  rw [List.getElem?_append_right (by omega),List.getElem?_map] at h
  cases e:H[k - s.H.length]? with
  | none=>rw [e] at h; cases h
  | some b'=>rw [e] at h; exact .inr ⟨k - s.H.length,b',by omega,e,(Option.some.inj h).symm⟩
 have hown:∀ (k:Nat) (c:List AV),H2[k]? = some (.own c)→(k < s.H.length∧s.H[k]? = some (.own c))∨∃ j c',k=s.H.length + j∧H[j]? = some (.own c')∧c=c'.map (Go.Pv.aY (nO s.H.length H.length)):=by
  intro k c h
  rcases aA k _ h with h | ⟨j,b',rfl,h,e⟩
  ·exact .inl h
  cases b' with
  | own c'=>simp only [aH.aY,aH.own.injEq] at e; exact .inr ⟨j,c',rfl,h,e⟩
  | _=>cases e
 have hok:∀ b,OK C m s.H w b→∀ k c l,H2[k]? = some (.own c)→m2 k=some l→l.g ≠ b:=by
  intro b hb k c l h hl
  rcases hown k c h with ⟨hk,h⟩ | ⟨j,c',rfl,h,_⟩
  ·rw [hmo k hk] at hl; exact hb.2.2 k c l h hl
  rw [hmn] at hl
  have:=hge j c' l h hl
  have:=hb.2.1
  omega
 have hOK:∀ b,OK (fresh okA w) m' H w' b→OK C m2 H2 w' b:=by
  intro b hb
  refine ⟨?_,hb.2.1,fun k c l h hl=>?_⟩
  ·rcases hb.1 with h | h
   ·exact (hA b h).1
   exact .inr (R.base _ h)
  rcases hown k c h with ⟨hk,h⟩ | ⟨j,c',rfl,h,_⟩
  ·rw [hmo k hk] at hl
   rcases hb.1 with h' | h'
   ·exact (hA b h').2.2 k c l h hl
   have:=hlt k c l h hl
   have h' : w.heap.size≤b:=h'
   omega
  rw [hmn] at hl; exact hb.2.2 j c' l h hl
 have hh:∀ b,b < w.heap.size→w'.heap[b]? = w.heap[b]?:=fun b h=>hbl.block b h
 have ho1:∀ b,OK C m s.H w b→OK C m2 H2 w' b:=fun b h=>⟨h.1,Nat.lt_of_lt_of_le h.2.1 hbl.size,hok b h⟩
 have hlen2:s.H.length + H.length≤H2.length:=by simp [H2]
 have hmpH:∀ (k:Nat) (b:aH),b.AX=true→H2[k]? = some b→s.H[k]? = some b:=by
  intro k b hs h
  rcases aA k _ h with h | ⟨j,b',rfl,h2,e⟩
  ·exact h.2
  subst e
  cases b' with
  | mp _ _ _ =>
   have:=(List.all_eq_true.1 hsb) _ (List.mem_of_getElem? h2)
   simp at this
  | bf _ _ =>
   have:=(List.all_eq_true.1 hsb) _ (List.mem_of_getElem? h2)
   simp at this
  | lp _ =>
   have:=(List.all_eq_true.1 hsb) _ (List.mem_of_getElem? h2)
   simp at this
  | _=>cases hs
 refine ⟨m2,R.heap (hbl.G5 R.base) (by simp) hmo hok (fun b h=>hh b h.2.1) ?_ ?_ ?_ hmpH,?_⟩
 ·intro k k' c c' l l' h1 h2 h3 h4 h5
  rcases hown k c h1 with ⟨hk,h1⟩ | ⟨j,d,rfl,h1,_⟩<;>rcases hown k' c' h2 with ⟨hk',h2⟩ | ⟨j',d',rfl,h2,_⟩
  ·rw [hmo k hk] at h3; rw [hmo k' hk'] at h4
   exact R.inj k k' c c' l l' h1 h2 h3 h4 h5
  ·rw [hmo k hk] at h3; rw [hmn] at h4
   have:=hlt k c l h1 h3
   have:=hge j' d' l' h2 h4
   omega
  ·rw [hmn] at h3; rw [hmo k' hk'] at h4
   have:=hlt k' c' l' h2 h4
   have:=hge j d l h1 h3
   omega
  rw [hmn] at h3 h4
  rw [ho.inj j j' d d' l l' h1 h2 h3 h4 h5]
 ·intro k c h
  rcases hown k c h with ⟨hk,h⟩ | ⟨j,c',rfl,hj,rfl⟩
  ·refine (R.blk k c h).ext (fun p v h=>h.ext ho1 fun b hb=>hh b hb.2.1) (by simp) hmo (hmo k hk) fun l hl=>?_
   exact hh _ (hlt k c l h hl)
  rcases ho.blk j c' hj with ⟨e,hn⟩ | ⟨l,cur,e,h1,h2,h3,h4,h5,h6,h7⟩
  ·exact .inl ⟨by rw [e]; rfl,by rw [hmn]; exact hn⟩
  refine .inr ⟨l,cur,e,by rw [hmn]; exact h1,R.base _ h2,h3,h4,h5,by simpa using h6,fun i hi=>?_⟩
  rw [List.length_map] at hi
  rw [List.getElem_map]
  have hs:bj H.length c'[i]=true:=by
   have:=(List.all_eq_true.1 hsb) _ (List.mem_of_getElem? hj)
   exact (List.all_eq_true.1 this) _ (List.getElem_mem hi)
  exact (h7 i hi).shift (fun p v h=>h.mono hOK) hlen2 (fun k _=>hmn k) hs
 ·intro k c h
  rcases aA k _ h with ⟨hk,h⟩ | ⟨j,b',rfl,h,e⟩
  ·exact (R.fro k c h).ext ho1 (fun b hb=>hh b hb.2.1) (hmo k hk)
  cases b' with
  | fro c' =>
   simp only [aH.aY,aH.fro.injEq] at e
   subst e
   rcases ho.fro j c h with ⟨e1,e2⟩ | ⟨l,vs,e1,e2,e3,e4⟩
   ·exact .inl ⟨e1,by rw [hmn]; exact e2⟩
   exact .inr ⟨l,vs,by rw [hmn]; exact e1,hOK _ e2,e3,fun i hi=>⟨(e4 i hi).1,(e4 i hi).2.mono hOK⟩⟩
  | _=>cases e
 exact ho.val.shift (fun p v h=>h.mono hOK) hlen2 (fun k _=>hmn k) hsa
theorem oY {o:Oper} {fo:Operand} {args:Array Operand} {ts:Array TypeId} (ho:o.op = .call { callee:=.value fo,args:=args,argTypes:=ts }) {g:FuncId} {avs:List PV} {p:Prop} {av:AV} {H:az}
  (hc:wz P g avs av H) (hcall:da s fo args=some (g,avs,p,true)) (hp:p) (bD:HA av H=true):bu P o s (Go.Pv.aY (nO s.H.length H.length) av) (s.H++H.map (aH.aY (nO s.H.length H.length))):=by
 intro C m a w K Q R hK
 unfold da at hcall
 split at hcall
 ·rename_i g' cap hf
  split at hcall<;>simp only [Option.some.injEq,Prod.mk.injEq,reduceCtorEq] at hcall
  rename_i p' pvs b' hpl
  obtain ⟨rfl,rfl,rfl,rfl⟩:=hcall
  have hfv:=R.ev fo
  rw [hf] at hfv
  generalize hfe:a.eval fo=fv at hfv
  have hfv:=hfv.aN
  cases hfv with
  | fn _ _ vs hcl hcr =>
   obtain ⟨⟨fn,hfn,hnm,hbd⟩,hcalls⟩:=hc
   obtain ⟨e1,e2,e3⟩:=cP (C:=C) (m:=m) (w:=w) (H:=s.H) (fun {x v p pv b} (hx:aG (Reads (OK C m s.H w) w) m s.H x v) h hp=>fb R hx h hp) (args.toList.map s.ev) (fun c=>(args.toList.map a.eval).getD c undef) (fun c hc=>by
    simp only [List.length_map] at hc
    have:=R.ev (args.toList[c])
    simpa [List.getD,List.getElem?_map,List.getElem?_eq_getElem hc] using this) hpl hp
   simp only [List.length_map] at e1
   have hvals:∀ i (h:i < (pvs++cap).length),(args.map a.eval++vs).getD i undef=if i < pvs.length then (args.toList.map a.eval).getD i undef else vs.getD (i - pvs.length) undef:=by
    intro i hi
    simp only [Array.getD_eq_getD_getElem?]
    by_cases hip:i < pvs.length
    ·rw [if_pos hip,Array.getElem?_append_left (by simp at e1 ⊢; omega)]
     simp [List.getD]
    rw [if_neg hip,Array.getElem?_append_right (by simp at e1 ⊢; omega)]
    congr 2
    simp at e1 ⊢; omega
   have hrun:(execOp a.eval o).run P w = .ok (.enter g' (args.map a.eval++vs)) w:=by
    have hnm' : ¬ fn.name = "runtime.NumGoroutine":=by simpa using hnm
    have hbd' : ¬ fn.body=none:=by intro e; rw [e] at hbd; simp at hbd
    simp [execOp,ho,resolve,hfe,Deferred.ofValue,invoke,callFunc,hfn,hnm',hbd']
   refine aW (by first|rfl|(rw [ho]; rfl)) ?_
   unfold Oper.wp
   rw [hrun]
   simp only [Oper.upon]
   have hsz:(args.map a.eval++vs).size=(pvs++cap).length:=by simp at e1 ⊢; omega
   refine (hcalls (OK C m s.H w) w _ R.Ad hsz (fun i hi=>?_)).mono fun e w' ⟨v,m',he,hbl,hv⟩=>?_
   ·rw [hvals i hi]
    by_cases hip:i < pvs.length
    ·rw [if_pos hip,List.getElem_append_left hip]; exact e3 rfl i hip
    rw [if_neg hip,List.getElem_append_right (by omega)]; exact hcr _ (by simp at hi; omega)
   subst he
   obtain ⟨m2,R2,hv2⟩:=R.join (fun b h=>h) hbl hv bD
   exact hK v m2 w' R2 hv2
 cases hcall
theorem wk {all:Array Oper} {rest:List Oper} {K:St→Prop} {dst:Option Tmp} {ty:TypeId} {pos:String} {aft:Array Edge} {gd:Option (Nat × Bool)} {fo:Operand} {args:Array Operand} {ts:Array TypeId} {g:FuncId} {avs:List PV} {p:Prop} {av:AV} {H:az}
  (hc:wz P g avs av H) (hg:a8 all s { dst:=dst,op:=.call { callee:=.value fo,args:=args,argTypes:=ts },type:=ty,pos:=pos,after:=aft,guard:=gd } = some true)
  (hcall:da s fo args=some (g,avs,p,true)) (bD:HA av H=true) (hd:ay s dst) (hp:p) (h:dL P false all rest K (({ s with H:=s.H++H.map (aH.aY (nO s.H.length H.length)) } : St).put dst (Go.Pv.aY (nO s.H.length H.length) av))) :
  dL P false all ({ dst:=dst,op:=.call { callee:=.value fo,args:=args,argTypes:=ts },type:=ty,pos:=pos,after:=aft,guard:=gd } :: rest) K s:=by
 obtain ⟨s',hr,hK⟩:=h
 exact ⟨s',.cons (.op s _ _ hg (bC hd) (oY rfl hc hcall hp bD) fun h=>by cases h) hr,hK⟩
end
open Go.RowKit
section
variable {P:Program} {T:TypeId→Option TI} {s:St}
theorem cB {all:Array Oper} {rest:List Oper} {K:St→Prop} {o:Oper} {av:AV} {H' : az} (h1:bu P o s av H') (hg:a8 all s o=some true) (hd:ay s o.dst)
  (h:dL P false all rest K (({ s with H:=H' } : St).put o.dst av)):dL P false all (o :: rest) K s:=by
 obtain ⟨s',hr,hK⟩:=h
 exact ⟨s',.cons (.op s _ _ hg (bC hd) h1 fun h=>by cases h) hr,hK⟩
theorem GU {c:Code} {Q:Exit→St→Prop} (t:Nat) (hs:s.get t = .p (.list [])) (h1:Holds P c Q { s with sl:=(t,.p .nil) :: s.sl }) (h2:Holds P c Q { s with sl:=(t,.p .nz) :: s.sl }):Holds P c Q s:=by
 intro r ds C m a w R hd
 have put:∀ pv,Reads (OK C m s.H w) w pv (a.tmps.getD t undef)→Rel C m { s with sl:=(t,.p pv) :: s.sl } a.tmps w:=by
  intro pv hpv
  refine ⟨R.laid,R.below,R.base,R.size,R.inj,R.blk,R.fro,fun t'=>?_,R.mp⟩
  by_cases e:t=t'
  ·subst e
   have e2:({ s with sl:=(t,AV.p pv) :: s.sl } : St).get t = .p pv:=by simp [St.get,lk]
   rw [e2]
   exact .p _ _ hpv
  have e2:({ s with sl:=(t,AV.p pv) :: s.sl } : St).get t' = s.get t':=by simp [St.get,lk,show (t == t')=false by simpa using e]
  rw [e2]
  exact R.slot t'
 have h:=R.slot t
 rw [hs] at h
 have h:=h.aN
 obtain ⟨ad,cap,e,_⟩:=h.qO
 simp only [List.length_nil] at e
 rw [e] at h put
 cases ad with
 | none =>
  have hc:=h.ug rfl
  subst hc
  exact h1 r ds C m a w (put _ .nil) hd
 | some b=>exact h2 r ds C m a w (put _ (.nz b cap)) hd
theorem ji {c:Code} {Q:Exit→St→Prop} (t:Nat) (hs:s.get t = .p .nil) (h:Holds P c Q { s with sl:=(t,.sl s.H.length 0 0) :: s.sl,H:=s.H++[.own []] }):Holds P c Q s:=by
 intro r ds C m a w R hd
 have hv:=R.slot t
 rw [hs] at hv
 have hv:=hv.aN.fk
 have R':=R.tB
 refine h r ds C _ a w ⟨R'.laid,R'.below,R'.base,R'.size,R'.inj,R'.blk,R'.fro,fun t'=>?_,R'.mp⟩ hd
 by_cases e:t=t'
 ·subst e
  have e2:({ s with sl:=(t,.sl s.H.length 0 0) :: s.sl,H:=s.H++[.own []] } : St).get t = .sl s.H.length 0 0:=by simp [St.get,lk]
  rw [e2,hv]
  exact .sl _ _ _ _ (by simp) <| .inl ⟨rfl,none,rfl⟩
 have e2:({ s with sl:=(t,.sl s.H.length 0 0) :: s.sl,H:=s.H++[.own []] } : St).get t' = s.get t':=by simp [St.get,lk,show (t == t')=false by simpa using e]
 rw [e2]
 exact R'.slot t'
inductive Sub:PV→PV→Prop
 | same (a:PV):Sub a a
 | nn (l:List PV):Sub (.nn l) (.list l)
 | nil:Sub .nil (.list [])
 | nz:Sub .nz (.list [])
theorem Sub.reads {a b:PV} (h:Sub a b) {ok:Nat→Prop} {w:World} {v:Value} (hv:Reads ok w a v):Reads ok w b v:=by
 cases h with
 | same=>exact hv
 | nn l=>exact hv.iP
 | nil=>exact hv.o9
 | nz =>
  cases hv with
  | nz a cap=>exact .list0 _ _ fun h=>by cases h
def vR:List PV→List PV→Prop
 | [],[]=>True
 | a :: r,b :: s=>Sub a b∧vR r s
 | _,_=>False
theorem vR.len:∀ {l r:List PV},vR l r→l.length=r.length
 | [],[],_=>rfl
 | a :: l,b :: r,h=>by simp [vR.len h.2]
 | [],_ :: _,h=>h.elim
 | _ :: _,[],h=>h.elim
theorem vR.get:∀ {l r:List PV},vR l r→∀ (i:Nat) (h:i < l.length) (h' : i < r.length),Sub l[i] r[i]
 | a :: l,b :: r,h,0,_,_=>h.1
 | a :: l,b :: r,h,i + 1,h1,h2=>by simpa using vR.get h.2 i (by simpa using h1) (by simpa using h2)
 | [],[],_,i,h,_=>by simp at h
 | [],_ :: _,h,_,_,_=>h.elim
 | _ :: _,[],h,_,_,_=>h.elim
theorem ct.sub {f:FuncId} {args args' : List PV} {r:PV} (h:ct P f args r) (hs:vR args' args):ct P f args' r:=by
 refine ⟨h.1,fun okA w vals h1 h2 h3=>h.2 okA w vals h1 (h2.trans hs.len) fun i hi=>?_⟩
 have:=hs.len
 exact (hs.get i (by omega) hi).reads (h3 i (by omega))
theorem si {c:Code} {Q:Exit→St→Prop} (t k:Nat) {w:List Int} (h1:s.get t = .sl k 0 w.length) (h2:aA s.H k = .own (ol w)) (h:Holds P c Q { s with sl:=(t,.p (.list (il w))) :: s.sl,H:=aF s.H k (.fro (il w)) }):Holds P c Q s:=by
 refine er k h2 (jg w) (sB (s:={ s with H:=aF s.H k (.fro (il w)) }) t (p:=0 + w.length≤(il w).length∧(((il w).drop 0).take w.length).all PV.one=true) (pv:=.list (((il w).drop 0).take w.length)) ?_ ?_ ?_)
 ·have e:({ s with H:=aF s.H k (.fro (il w)) } : St).get t = .sl k 0 w.length:=h1
  rw [e]
  have hk:=bE h2
  have hkl:k < s.H.length:=(List.getElem?_eq_some_iff.1 hk).1
  have e2:aA (aF s.H k (.fro (il w))) k = .fro (il w):=by
   have key:∀ (H:az) (k:Nat) (b:aH),k < H.length→aA (aF H k b) k=b:=by
    intro H
    induction H with
    | nil=>intro k b h; simp at h
    | cons x r ih =>
     intro k b h
     cases k with
     | zero=>rfl
     | succ k=>exact ih k b (by simpa using h)
   exact key _ _ _ hkl
  simp only [bH,cg,e2]
 ·simp only [aw,List.drop_zero,sx,dX,ij]
  exact ⟨by omega,trivial⟩
 simp only [List.drop_zero,sx,dX]
 exact h
def ll (ls:List (List Int)):List PV:=ls.map fun w=>.list (il w)
theorem aC (ls:List (List Int)):(ll ls).length=ls.length:=by simp [ll]
theorem b8 {ls:List (List Int)} {i:Nat} (h:i < ls.length):(ll ls).getD i default = .list (il (ls.getD i [])):=by
 simp [ll,List.getD,List.getElem?_eq_getElem h]
theorem jL (ls:List (List Int)):(ll ls).all PV.one=true:=by simp [ll,PV.one]
theorem uZ (ls:List (List Int)):(ll ls).all (fun x=>x.cells.length == 1)=true:=by simp [ll,PV.cells]
theorem ra (hT:∀ t ti,T t=some ti→bk P t=some ti) {o:Oper} {t:TypeId} {x y:Operand} (ho:o.op = .call { callee:=.builtin .append,args:=#[x,y],argTypes:=#[t,t] }) {ti te:TI} (ht:T t=some ti) {e:TypeId} (hk:ti.kind = .slice e) (hte:T e=some te) (hsz:te.size=1)
  {l:List PV} (hx:s.ev x = .p (.nn l)) (hy:s.ev y = .p .nz):bu P o s (.p (.nn l)) s.H:=by
 intro C m a w K Q R hK
 obtain ⟨dst,op,type,pos,after,guard⟩:=o
 simp only at ho
 subst ho
 have hu:=bK (hT _ _ ht) hk
 obtain ⟨i,d,z,h1,h2,h3,h4,h5,h6,h7,h8⟩:=aZ (hT _ _ hte)
 have h:=R.ev x
 rw [hx] at h
 have hl:=h.aN
 obtain ⟨ad,hv⟩:∃ ad,a.eval x = .slice (some ad) l.length l.length:=by
  generalize a.eval x=v at hl
  rcases hl.iX with ⟨rfl,ad,rfl⟩ | ⟨b,off,sz,vs,rfl,_⟩
  ·exact ⟨ad,rfl⟩
  exact ⟨_,rfl⟩
 have hy':=R.ev y
 rw [hy] at hy'
 obtain ⟨ad2,cap2,hv2⟩:=hy'.aN.xg
 have hr:=eH (P:=P) (w:=w) type hu h1 (by rw [h4,hsz]) (ad:=some ad) (n:=l.length) (cap:=l.length) (x:=.slice (some ad2) 0 cap2) gX (Nat.le_refl _)
 have hrun:(execOp a.eval { dst:=dst,op:=.call { callee:=.builtin .append,args:=#[x,y],argTypes:=#[t,t] },type:=type,pos:=pos,after:=after,guard:=guard }).run P w = .ok (.value (.slice (some ad) l.length l.length)) w:=by
  simp only [BigFrame.execOp_builtin,BigFrame.builtin_append,List.map_toArray,List.map_cons,List.map_nil,hv,hv2,Sem.run_bind,hr,Result.andThen_ok,Sem.run_pure]
 refine aW (by first|rfl|(rw [ho]; rfl)) ?_
 unfold Oper.wp
 rw [hrun]
 rw [hv] at hl
 exact hK _ m w R (.p _ _ hl)
end
def Jr:=And.intro @Gz
 <| And.intro @CJ
 <| And.intro @G8
 <| And.intro @CW
 <| And.intro @HE
 <| And.intro @F2
 <| And.intro @F6
 <| And.intro @FN
 <| And.intro @HD
 <| And.intro @Nat.sub_zero
 <| And.intro @Int.toNat_natCast
 <| And.intro @Int.toNat_zero
 <| And.intro @List.replicate_zero.{0}
 <| And.intro @aw
 <| And.intro @aC
 <| And.intro @jL
 <| And.intro @uZ
 <| And.intro @ij
 <| And.intro @BV
 <| And.intro @Ij
 <| And.intro @dg
 <| And.intro @HG
 <| And.intro @nC
 <| And.intro @fG
 <| And.intro @jg
 <| And.intro @oG
 <| And.intro @oO
 <| And.intro @zx
 <| And.intro @DM
 <| And.intro @dX
 <| And.intro @sx
 <| And.intro @CU
 <| And.intro @qX
 <| And.intro @Hb
 <| And.intro @GK
 <| And.intro @Dz
 <| And.intro @Ej
 <| And.intro @FJ
 <| And.intro @List.headD_cons.{0}
 <| And.intro @List.map_cons.{0,0}
 <| And.intro @List.map_nil.{0,0}
 <| And.intro @List.nil_append.{0}
 <| And.intro @List.append_nil.{0}
 <| And.intro @List.cons_append.{0}
 <| And.intro @List.length_cons.{0}
 <| And.intro @List.length_nil.{0}
 <| And.intro @List.getElem?_cons_zero.{0}
 <| And.intro @List.getElem?_cons_succ.{0}
 <| And.intro @Option.map_some.{0,0}
 <| And.intro @Option.map_none.{0,0}
 <| And.intro @Option.bind_some.{0,0}
 <| And.intro @cond_true.{1}
 <| And.intro @cond_false.{1}
 <| And.intro @Nat.zero_add
 <| And.intro @Nat.add_zero
 <| And.intro @true_and
 <| And.intro @and_true
 <| And.intro @Int.zero_sub
 <| And.intro @Int.neg_zero
 <| And.intro @Int.sub_zero
 <| And.intro @and_self
 <| And.intro @List.getElem?_toArray.{0}
 <| And.intro @List.getD_cons_zero.{0}
 <| And.intro @List.getD_cons_succ.{0}
 <| And.intro @List.all_cons.{0}
 <| And.intro @List.all_nil.{0}
 <| And.intro @Bool.and_true
 <| And.intro @Bool.true_and
 <| And.intro @Bool.and_self
 <| And.intro @List.take_zero.{0}
 <| And.intro @List.drop_zero.{0}
 <| And.intro @Ho
 <| And.intro @F9
 <| And.intro @FC
 <| And.intro @Fe
 <| And.intro @Bool.not_true
 <| And.intro @Bool.not_false
 <| And.intro @Bool.false_eq_true
 <| And.intro @Bool.true_eq_false
 <| And.intro @Option.some.injEq.{0}
 <| And.intro @eq_self.{1}
 <| And.intro @ne_eq.{1}
 <| And.intro @not_false_eq_true
 <| And.intro @Nat.one_ne_zero
 <| And.intro @List.take_succ_cons.{0}
 <| And.intro @List.take_nil.{0}
 <| And.intro @List.drop_succ_cons.{0}
 <| And.intro @List.drop_nil.{0}
 <| And.intro @List.set_cons_zero.{0}
 <| And.intro @List.set_cons_succ.{0}
 <| @List.set_nil.{0}
open Go.RowKit Go.ChangeShapes Go.WideShapes
section
variable {H:Type} {enc:TypeId × Value→H} {P:Program}
theorem Cv {t e:TypeId} {W:World} {base:Nat} {v:Value} {d:DataW H} {p:List MemPlace} (ht:P.underlying t=some (.slice e)) (he:P.underlying e=some (.int .i64)) (hc:P.cellsOf e=1)
  (hby:P.bytesOf e=8) (hval:Value.okWide P W .any base t v) (h:DataW.Trod enc P W 0 (fun _=>true) true t v d p) (hw:(d.weights P t).all (·≤reachBytes)=true) :
  ∃ xs:List Int,(∀ x∈xs,ah x)∧xs.length≤17592186043904∧Reads (fun b=>b < W.heap.size) W (.list (il xs)) v:=by
 obtain ⟨a0,len0,cap0,rfl⟩:=okWide_slice ht hval
 obtain ⟨fuel,hf⟩:=h
 rcases open_ints ht he hc hf with ⟨hcs,hx⟩ | ⟨a,len,cap,zs,hcs,_,hle,hmax,hall,hx,hcell,hwf⟩
 ·simp [Value.cells] at hcs
  obtain ⟨rfl,rfl,rfl⟩:=hcs
  exact ⟨[],fun x hx=>by simp at hx,Nat.zero_le _,.list0 none 0 fun _=>rfl⟩
 simp [Value.cells] at hcs
 obtain ⟨rfl,rfl,rfl⟩:=hcs
 simp only [Prod.mk.injEq] at hx
 obtain ⟨rfl,rfl⟩:=hx
 simp only [DataW.weights,ht,hby,List.all_cons,Bool.and_eq_true,decide_eq_true_eq] at hw
 have hbig:(zs.take len0).length * 8≤reachBytes:=by
  have e1:∀ l:List Int,(lits (H:=H) .i64 l).length=l.length:=fun l=>by simp [lits]
  have:=hw.1
  rw [e1,e1] at this
  omega
 unfold reachBytes at hbig
 simp only [if_true] at hall
 have hlen:(zs.take len0).length=len0:=by simp; omega
 refine ⟨zs.take len0,fun x hx=>?_,by omega,?_⟩
 ·have:=hwf x (List.mem_of_mem_take hx)
  simp [Lit.wf,IntKind.min,IntKind.max,IntKind.signed,IntKind.bits] at this
  exact ⟨by omega,by omega⟩
 by_cases h0:len0=0
 ·subst h0
  exact .list0 _ _ fun h=>by cases h
 obtain ⟨b,off,rfl,hcell'⟩:=ints_at (w:=W) hcell (by omega)
 have hone:∀ x∈il (zs.take len0),x.cells.length=1:=by
  intro x hx
  obtain ⟨y,_,rfl⟩:=List.mem_map.1 hx
  rfl
 have hfl:flat (il (zs.take len0))=il (zs.take len0):=dK (ij _)
 have:=Reads.list (ok:=fun b=>b < W.heap.size) (w:=W) (il (zs.take len0)) b off cap0 1 (fun j=>.int .i64 (zs.getD j 0)) ?_ hone (by rw [aw,hlen]; exact hle) (fun c hcl=>?_) (fun c hcl=>?_)
 ·rwa [aw,hlen] at this
 ·have:=hcell' 0 (by omega)
  simp only [World.cell?] at this
  by_cases hb:b < W.heap.size
  ·exact hb
  rw [Array.getElem?_eq_none (by omega)] at this
  simp at this
 ·rw [hfl,aw,hlen] at hcl
  exact hcell' c (by omega)
 simp only [hfl]
 have hcl2:c < len0:=by rw [hfl,aw,hlen] at hcl; exact hcl
 have e:(il (zs.take len0))[c]'(by rw [aw,hlen]; exact hcl2) = .int .i64 (zs.getD c 0):=by
  simp [il,List.getD,List.getElem?_eq_getElem (show c < zs.length by omega)]
 rw [e]
 exact .int _ _
theorem rQ (hl:laidOutB P=true) {W W' : World} {sp:Nat→Bool} (hb:Below W.heap.size W W'):∀ {ts:List TypeId} {vs:List Value} {ds:List (DataW H)} {ps:List MemPlace},(ts.all fun t=>P.readableRec t && decide (t < P.types.size))=true →
  DataW.TrodAll enc P W 0 (fun _=>true) true ts vs ds ps→(∀ x∈ps,x.block < W.heap.size)→(∀ x∈ps,sp x.block=true)→DataW.TrodAll enc P W' 0 sp true ts vs ds ps
 | [],vs,ds,ps,_,h,_,_=>by
  obtain ⟨rfl,rfl,rfl⟩:=trodAll_nil h
  exact trodAll_mk0
 | t :: ts,vs,ds,ps,ht,h,hlt,hs=>by
  obtain ⟨v,vs',d,ds',p,q,rfl,rfl,rfl,h0,h1⟩:=trodAll_cons h
  simp only [List.all_cons,Bool.and_eq_true,decide_eq_true_eq] at ht
  refine trodAll_cons_mk (WideElems.Trod_stays hl ht.1.1 ht.1.2 h0 (fun x hx=>hb.same (hlt x (by simp [hx]))) fun x hx=>hs x (by simp [hx])) (rQ hl hb ht.2 h1 (fun x hx=>hlt x (by simp [hx])) fun x hx=>hs x (by simp [hx]))
theorem Be (hl:laidOutB P=true) {f:Func} {s:ChangeSpec} {W W' : World} {args:Array Value} {ds gs:List (DataW H)} {before:List MemPlace} {tb:TypeId} (hvars:s.vars=[]) (hr:f.resultTypes = #[tb]) (hb:P.underlying tb=some .bool)
  (hts:(f.params.toList.all fun t=>P.readableRec t && decide (t < P.types.size))=true) (hW:DataW.Whole enc P f.params.toList s.vars false W args.toList ds gs before)
  (hfn:ds.length=f.params.toList.length→s.fn H (ds++[]) = { results:=[.lit (.bool true)],args:=ds }) (hbl:Below W.heap.size W W'):s.post enc P f false true false false W args (.bool true) W':=by
 have hW':=hW
 obtain ⟨p,q,hA,hV,rfl,hfz,hnd⟩:=hW
 rw [hvars] at hV
 obtain ⟨rfl,rfl⟩:=trodVars_none hV
 have hlen:ds.length=f.params.toList.length:=(trodAll_length hA).2
 have hf:=hfn hlen
 have hlt:∀ x∈p,x.block < W.heap.size:=fun x hx=>by simpa using hW'.lt x (by simp [hx])
 have hold:∀ x∈p++[],(fun b=>decide (b < W.heap.size)) x.block=true:=fun x hx=>by simpa using hW'.lt x hx
 have hres:∀ (b:Nat) (sp:Nat→Bool) (hd:Bool),DataW.TrodAll enc P W' b sp hd f.resultTypes.toList ((Value.bool true).resultList f.resultTypes.size) (s.fn H (ds++[])).results []:=by
  intro b sp hd
  rw [hf,hr]
  exact trodAll_mk1 (shut_bool hb _)
 have hargs:∀ sp:Nat→Bool,(∀ x∈p++[],sp x.block=true)→DataW.TrodAll enc P W' 0 sp true f.params.toList args.toList (s.fn H (ds++[])).args p:=by
  intro sp hsp
  rw [hf]
  exact rQ hl hbl hts hA hlt fun x hx=>hsp x (by simp [hx])
 have hvs:∀ sp:Nat→Bool,DataW.TrodVars enc P W' sp s.vars (s.fn H (ds++[])).vars []:=by
  intro sp
  rw [hvars,hf]; rfl
 refine ⟨ds,[],p++[],[],p,[],hW',hres _ _ _,hargs _ hold,hvs _,World.keptBut_mono (fun x hx=>⟨hx,?_⟩) (hbl.frame (·∈p++[])),fun _=>?_⟩
 ·exact Or.inr (by simpa using hx)
 refine ⟨ok_one hr rfl (okWide_bool_mk hb _),_,_,([]++p)++[],⟨[]++p,[],trodAll_append (hargs _ (fun _ _=>rfl)) (hres _ _ _),hvs _,rfl,?_,?_⟩,?_⟩
 ·intro b off hp
  rw [hbl.frozen (p:=⟨b,off,none⟩) (hlt (.cell b off) (by simpa using hp))]
  exact hfz b off (by simpa using hp)
 ·intro ha
  have:=hnd ha
  simpa using this
 intro x hx _
 simpa using hx
end
open Go.RowKit Go.ChangeShapes Go.WideShapes
def gp (n:Int) (m:List Int):PV:=.agg [.int .i64 n,.list (il m)]
section
variable {H:Type} {enc:TypeId × Value→H} {P:Program}
theorem pD {t e:TypeId} {W:World} {fuel:Nat} {cs:List Value} {x:DataW H × List MemPlace} (ht:P.underlying t=some (.slice e)) (he:P.underlying e=some (.int .i64)) (hc:P.cellsOf e=1)
  (hby:P.bytesOf e=8) (hf:DataW.trod enc P W 0 (fun _=>true) true fuel t cs=some x) (hw:(x.1.weights P t).all (·≤reachBytes)=true) :
  ∃ (xs:List Int) (v:Value),cs=[v]∧(∀ x∈xs,ah x)∧xs.length≤17592186043904∧Reads (fun b=>b < W.heap.size) W (.list (il xs)) v:=by
 rcases open_ints ht he hc hf with ⟨rfl,rfl⟩ | ⟨a,len0,cap0,zs,rfl,_,hle,hmax,hall,rfl,hcell,hwf⟩
 ·exact ⟨[],_,rfl,fun x hx=>by simp at hx,Nat.zero_le _,.list0 none 0 fun _=>rfl⟩
 simp only [DataW.weights,ht,hby,List.all_cons,Bool.and_eq_true,decide_eq_true_eq] at hw
 have hbig:(zs.take len0).length * 8≤reachBytes:=by
  have e1:∀ l:List Int,(lits (H:=H) .i64 l).length=l.length:=fun l=>by simp [lits]
  have:=hw.1
  rw [e1,e1] at this
  omega
 unfold reachBytes at hbig
 simp only [if_true] at hall
 have hlen:(zs.take len0).length=len0:=by simp; omega
 refine ⟨zs.take len0,_,rfl,fun x hx=>?_,by omega,?_⟩
 ·have:=hwf x (List.mem_of_mem_take hx)
  simp [Lit.wf,IntKind.min,IntKind.max,IntKind.signed,IntKind.bits] at this
  exact ⟨by omega,by omega⟩
 by_cases h0:len0=0
 ·subst h0
  exact .list0 _ _ fun h=>by cases h
 obtain ⟨b,off,rfl,hcell'⟩:=ints_at (w:=W) hcell (by omega)
 have hone:∀ x∈il (zs.take len0),x.cells.length=1:=by
  intro x hx
  obtain ⟨y,_,rfl⟩:=List.mem_map.1 hx
  rfl
 have hfl:flat (il (zs.take len0))=il (zs.take len0):=dK (ij _)
 have:=Reads.list (ok:=fun b=>b < W.heap.size) (w:=W) (il (zs.take len0)) b off cap0 1 (fun j=>.int .i64 (zs.getD j 0)) ?_ hone (by rw [aw,hlen]; exact hle) (fun c hcl=>?_) (fun c hcl=>?_)
 ·rwa [aw,hlen] at this
 ·have:=hcell' 0 (by omega)
  simp only [World.cell?] at this
  by_cases hb:b < W.heap.size
  ·exact hb
  rw [Array.getElem?_eq_none (by omega)] at this
  simp at this
 ·rw [hfl,aw,hlen] at hcl
  exact hcell' c (by omega)
 simp only [hfl]
 have hcl2:c < len0:=by rw [hfl,aw,hlen] at hcl; exact hcl
 have e:(il (zs.take len0))[c]'(by rw [aw,hlen]; exact hcl2) = .int .i64 (zs.getD c 0):=by
  simp [il,List.getD,List.getElem?_eq_getElem (show c < zs.length by omega)]
 rw [e]
 exact .int _ _
theorem C7 {t tl ti:TypeId} {W:World} {base:Nat} {v:Value} {d:DataW H} {p:List MemPlace} {f0 f1:Field} (ht:P.underlying t=some (.struct #[f0,f1])) (hf0:f0.type=ti) (hf1:f1.type=tl) (ho0:f0.offset=0) (ho1:f1.offset=1)
  (hct:P.cellsOf t=2) (hcl:P.cellsOf tl=1) (htl:P.underlying tl=some (.slice ti)) (hti:P.underlying ti=some (.int .i64)) (hc:P.cellsOf ti=1)
  (hby:P.bytesOf ti=8) (hval:Value.okWide P W .any base t v) (h:DataW.Trod enc P W 0 (fun _=>true) true t v d p) (hw:(d.weights P t).all (·≤reachBytes)=true) :
  ∃ (n:Int) (xs:List Int),ah n∧(∀ x∈xs,ah x)∧xs.length≤17592186043904∧Reads (fun b=>b < W.heap.size) W (gp n xs) v:=by
 obtain ⟨cs,rfl,hsz⟩:=okWide_struct ht hval
 obtain ⟨fuel,hf⟩:=h
 obtain ⟨y0,y1,m,hx,hl,h0,h1⟩:=trod_struct2 ht hf
 simp only [Prod.mk.injEq] at hx
 obtain ⟨rfl,rfl⟩:=hx
 subst hf0 hf1
 simp only [DataW.weights,ht,List.map_cons,List.map_nil,DataW.weightsEach,List.append_nil,List.all_append,Bool.and_eq_true] at hw
 rw [ho0,hc,List.drop_zero] at h0
 rw [ho1,hcl] at h1
 obtain ⟨n,hcs0,_,hwf⟩:=DataW.trod_int hti h0
 obtain ⟨xs,v1,hcs1,g1,g2,g3⟩:=pD htl hti hc hby h1 hw.2
 rw [hct] at hsz hl
 simp only [Value.cells] at hcs0 hcs1 hl
 simp [Lit.wf,IntKind.min,IntKind.max,IntKind.signed,IntKind.bits] at hwf
 have c0:cs.toList[0]? = some (.int .i64 n):=by
  have:=congrArg (fun l=>l[0]?) hcs0
  simpa using this
 have c1:cs.toList[1]? = some v1:=by
  have:=congrArg (fun l=>l[0]?) hcs1
  simpa using this
 have hc0:cs.getD 0 undef = .int .i64 n:=by
  rw [Array.getElem?_toList] at c0
  rw [Array.getD_eq_getD_getElem?,c0]; rfl
 have hc1:cs.getD 1 undef=v1:=by
  rw [Array.getElem?_toList] at c1
  rw [Array.getD_eq_getD_getElem?,c1]; rfl
 refine ⟨n,xs,⟨by omega,by omega⟩,g1,g2,.agg _ _ (by rw [hsz]; rfl) fun c hc=>?_⟩
 match c,hc with
 | 0,_=>rw [hc0]; exact .int _ _
 | 1,_=>rw [hc1]; exact g3
 | c + 2,hc=>exact absurd hc (by simp)
end
theorem Jq (a b:Int):(a == b)=decide (a=b):=rfl
theorem JB (a b:Int):(a != b) = !decide (a=b):=rfl
theorem AF (a:Int):decide (a=a)=true:=by simp
theorem Hi:(!true)=false:=rfl
theorem Ha:(!false)=true:=rfl
theorem F3 (b:Bool):(true && b)=b:=rfl
theorem GN (b:Bool):(false && b)=false:=rfl
theorem IQ:(#[]:Array Operand).isEmpty=true:=rfl
def Jx:=And.intro @tT.eq_1
 <| And.intro @tT.eq_2
 <| And.intro @tT.eq_3
 <| And.intro @zZ.eq_1
 <| And.intro @a8.eq_1
 <| And.intro @cW.eq_1
 <| And.intro @cW.eq_2
 <| And.intro @cW.eq_3
 <| And.intro @cW.eq_4
 <| And.intro @cW.eq_5
 <| And.intro @cW.eq_6
 <| And.intro @cW.eq_7
 <| And.intro @cW.eq_8
 <| And.intro @cW.eq_9
 <| And.intro @cW.eq_10
 <| And.intro @cW.eq_11
 <| And.intro @cW.eq_12
 <| And.intro @cW.eq_13
 <| And.intro @cW.eq_14
 <| And.intro @cW.eq_15
 <| And.intro @cW.eq_16
 <| And.intro @cW.eq_17
 <| And.intro @cW.eq_18
 <| And.intro @cW.eq_19
 <| And.intro @cW.eq_20
 <| And.intro @cW.eq_21
 <| And.intro @cW.eq_22
 <| And.intro @cW.eq_23
 <| And.intro @cW.eq_24
 <| And.intro @cW.eq_25
 <| And.intro @cW.eq_26
 <| And.intro @lA.eq_1
 <| And.intro @vC.eq_1
 <| And.intro @vC.eq_2
 <| And.intro @lU.eq_1
 <| And.intro @zm.eq_1
 <| And.intro @zm.eq_2
 <| And.intro @e9.eq_1
 <| And.intro @gh.eq_1
 <| And.intro @cR.eq_1
 <| And.intro @cR.eq_2
 <| And.intro @cR.eq_3
 <| And.intro @cR.eq_4
 <| And.intro @cR.eq_5
 <| And.intro @cR.eq_6
 <| And.intro @cR.eq_7
 <| And.intro @cR.eq_8
 <| And.intro @cR.eq_9
 <| And.intro @cR.eq_10
 <| And.intro @cR.eq_11
 <| And.intro @cR.eq_12
 <| And.intro @cR.eq_13
 <| And.intro @cR.eq_14
 <| And.intro @cR.eq_15
 <| And.intro @cR.eq_16
 <| And.intro @cR.eq_17
 <| And.intro @cR.eq_18
 <| And.intro @cR.eq_19
 <| And.intro @cR.eq_20
 <| And.intro @cR.eq_21
 <| And.intro @cR.eq_22
 <| And.intro @cR.eq_23
 <| And.intro @cR.eq_24
 <| And.intro @cR.eq_25
 <| And.intro @bL.eq_1
 <| And.intro @bL.eq_2
 <| And.intro @bL.eq_3
 <| And.intro @bL.eq_4
 <| And.intro @bL.eq_5
 <| And.intro @bL.eq_6
 <| And.intro @bL.eq_7
 <| And.intro @bL.eq_8
 <| And.intro @bL.eq_9
 <| And.intro @bL.eq_10
 <| And.intro @bL.eq_11
 <| And.intro @bL.eq_12
 <| And.intro @bL.eq_13
 <| And.intro @bL.eq_14
 <| And.intro @bL.eq_15
 <| And.intro @bL.eq_16
 <| And.intro @bL.eq_17
 <| And.intro @arith.eq_1
 <| And.intro @arith.eq_2
 <| And.intro @arith.eq_3
 <| And.intro @zJ.eq_1
 <| And.intro @zJ.eq_2
 <| And.intro @zJ.eq_3
 <| And.intro @zJ.eq_4
 <| And.intro @zJ.eq_5
 <| And.intro @zJ.eq_6
 <| And.intro @lQ.eq_1
 <| And.intro @lQ.eq_2
 <| And.intro @lQ.eq_3
 <| And.intro @nP.eq_1
 <| And.intro @nP.eq_2
 <| And.intro @im.eq_1
 <| And.intro @xd.eq_1
 <| And.intro @jm.eq_1
 <| And.intro @jm.eq_2
 <| And.intro @jm.eq_3
 <| And.intro @k9.eq_1
 <| And.intro @k9.eq_2
 <| And.intro @ep.eq_1
 <| And.intro @la.eq_1
 <| And.intro @dH.eq_1
 <| And.intro @dH.eq_2
 <| And.intro @vO.eq_1
 <| And.intro @vO.eq_2
 <| And.intro @sV.eq_1
 <| And.intro @sV.eq_2
 <| And.intro @sV.eq_3
 <| And.intro @sV.eq_4
 <| And.intro @sV.eq_5
 <| And.intro @sV.eq_6
 <| And.intro @lE.eq_1
 <| And.intro @dS.eq_1
 <| And.intro @dS.eq_2
 <| And.intro @dS.eq_3
 <| And.intro @cq.eq_def
 <| And.intro @IQ
 <| And.intro @cO.eq_1
 <| And.intro @cO.eq_2
 <| And.intro @cO.eq_3
 <| And.intro @cO.eq_4
 <| And.intro @cO.eq_5
 <| And.intro @fm.eq_1
 <| And.intro @kn.eq_1
 <| And.intro @mL.eq_1
 <| And.intro @mL.eq_2
 <| And.intro @dF.eq_1
 <| And.intro @iw.eq_1
 <| And.intro @iw.eq_2
 <| And.intro @iw.eq_3
 <| And.intro @eD.eq_1
 <| And.intro @eD.eq_2
 <| And.intro @eD.eq_3
 <| And.intro @cF.eq_1
 <| And.intro @cF.eq_2
 <| And.intro @cF.eq_3
 <| And.intro @cF.eq_4
 <| And.intro @cF.eq_5
 <| And.intro @fQ.eq_1
 <| And.intro @fQ.eq_2
 <| And.intro @AV.cells.eq_1
 <| And.intro @AV.cells.eq_2
 <| And.intro @AV.cells.eq_3
 <| And.intro @AV.isAgg.eq_1
 <| And.intro @AV.isAgg.eq_2
 <| And.intro @AV.isAgg.eq_3
 <| And.intro @e8.eq_1
 <| And.intro @e8.eq_2
 <| And.intro @e8.eq_3
 <| And.intro @pY.eq_1
 <| And.intro @aA.eq_1
 <| And.intro @aA.eq_2
 <| And.intro @aA.eq_3
 <| And.intro @aF.eq_1
 <| And.intro @aF.eq_2
 <| And.intro @aF.eq_3
 <| And.intro @dA.eq_1
 <| And.intro @dA.eq_2
 <| And.intro @dA.eq_3
 <| And.intro @dA.eq_4
 <| And.intro @bm.eq_1
 <| And.intro @bm.eq_2
 <| And.intro @bm.eq_3
 <| And.intro @bm.eq_4
 <| And.intro @bm.eq_5
 <| And.intro @bm.eq_6
 <| And.intro @bm.eq_7
 <| And.intro @kh.eq_1
 <| And.intro @kh.eq_2
 <| And.intro @after.eq_1
 <| And.intro @ay.eq_1
 <| And.intro @ay.eq_2
 <| And.intro @St.put.eq_1
 <| And.intro @St.put.eq_2
 <| And.intro @St.get.eq_1
 <| And.intro @lk.eq_1
 <| And.intro @lk.eq_2
 <| And.intro @St.ev.eq_1
 <| And.intro @St.ev.eq_2
 <| And.intro @St.ev.eq_3
 <| And.intro @St.ev.eq_4
 <| And.intro @cv.eq_1
 <| And.intro @cv.eq_2
 <| And.intro @cv.eq_3
 <| And.intro @cv.eq_4
 <| And.intro @cv.eq_5
 <| And.intro @PV.one.eq_1
 <| And.intro @PV.one.eq_2
 <| And.intro @PV.one.eq_3
 <| And.intro @entry.eq_1
 <| And.intro @tp.eq_1
 <| And.intro @tp.eq_2
 <| And.intro @wm.eq_1
 <| And.intro @wm.eq_2
 <| And.intro @wm.eq_3
 <| And.intro @jz.eq_1
 <| And.intro @jz.eq_2
 <| @e7.eq_1
def aE:=And.intro @Bool.not_eq_true'
 <| And.intro @Bool.not_eq_false'
 <| And.intro @Bool.not_eq_true
 <| And.intro @Bool.not_eq_false
 <| And.intro @Bool.and_eq_true
 <| And.intro @Bool.and_eq_false_iff
 <| And.intro @Bool.or_eq_true
 <| And.intro @Bool.or_eq_false_iff
 <| And.intro @decide_eq_true_eq
 <| And.intro @decide_eq_false_iff_not
 <| @Decidable.not_not
def leq:=And.intro @AV.p.injEq
 <| And.intro @AV.sl.injEq
 <| And.intro @AV.ptr.injEq
 <| And.intro @aH.own.injEq
 <| And.intro @PV.int.injEq
 <| And.intro @PV.bool.injEq
 <| And.intro @PV.list.injEq
 <| And.intro @Nat.sub_zero
 <| And.intro @Int.natCast_add
 <| And.intro @List.length_append.{0}
 <| And.intro @aX
 <| And.intro @bM
 <| And.intro @bN
 <| And.intro @List.nodup_cons.{0}
 <| And.intro @List.nodup_nil.{0}
 <| And.intro @List.mem_cons.{0}
 <| And.intro @List.not_mem_nil.{0}
 <| And.intro @or_false
 <| @not_false_eq_true
def bx:=And.intro @Le.eq_1
 <| And.intro @dQ.eq_1
 <| And.intro @dQ.eq_2
 <| And.intro @dQ.eq_3
 <| And.intro @jr.eq_1
 <| And.intro @jr.eq_2
 <| And.intro @dJ.eq_1
 <| And.intro @dJ.eq_2
 <| And.intro @dJ.eq_3
 <| And.intro @dJ.eq_4
 <| And.intro @dJ.eq_5
 <| And.intro @dJ.eq_6
 <| And.intro @aY.eq_1
 <| And.intro @aY.eq_2
 <| And.intro @aY.eq_3
 <| And.intro @aY.eq_4
 <| And.intro @aY.eq_5
 <| And.intro @bg.eq_1
 <| And.intro @bg.eq_2
 <| And.intro @bg.eq_3
 <| And.intro @bg.eq_4
 <| And.intro @bg.eq_5
 <| And.intro @bj.eq_1
 <| And.intro @bj.eq_2
 <| And.intro @bj.eq_3
 <| And.intro @bj.eq_4
 <| And.intro @bj.eq_5
 <| And.intro @bn.eq_1
 <| And.intro @bn.eq_2
 <| And.intro @bn.eq_3
 <| And.intro @bn.eq_4
 <| And.intro @bn.eq_5
 <| And.intro @bn.eq_6
 <| And.intro @bn.eq_7
 <| And.intro @bn.eq_8
 <| @bn.eq_9
def bT:=And.intro @eT.eq_1
 <| And.intro @eT.eq_2
 <| And.intro @eT.eq_3
 <| And.intro @jt.eq_1
 <| And.intro @dk.eq_1
 <| And.intro @dk.eq_2
 <| And.intro @kR.eq_1
 <| And.intro @kR.eq_2
 <| And.intro @bY.eq_1
 <| And.intro @bY.eq_2
 <| And.intro @eW.eq_1
 <| And.intro @eW.eq_2
 <| And.intro @bH.eq_1
 <| And.intro @bH.eq_2
 <| And.intro @bH.eq_3
 <| And.intro @cg.eq_1
 <| And.intro @cg.eq_2
 <| And.intro @cg.eq_3
 <| And.intro @cg.eq_4
 <| And.intro @aU.eq_1
 <| And.intro @aU.eq_2
 <| And.intro @PV.norm.eq_1
 <| And.intro @PV.norm.eq_2
 <| And.intro @PV.eS.eq_1
 <| And.intro @PV.eS.eq_2
 <| And.intro @PV.dU.eq_1
 <| And.intro @PV.dU.eq_2
 <| And.intro @PV.dU.eq_3
 <| And.intro @PV.dU.eq_4
 <| And.intro @PV.list.injEq
 <| And.intro @PV.tup.injEq
 <| And.intro @PV.agg.injEq
 <| And.intro @PV.int.injEq
 <| And.intro @PV.bool.injEq
 <| @List.cons.injEq.{0}
def JC:=And.intro @Jq
 <| And.intro @JB
 <| And.intro @AF
 <| And.intro @Hi
 <| And.intro @Ha
 <| And.intro @F3
 <| And.intro @GN
 <| And.intro @Int.cast_ofNat_Int
 <| And.intro @decide_true
 <| And.intro @decide_false
 <| And.intro @beq_self_eq_true.{0}
 <| And.intro @bne_self_eq_false.{0}
 <| And.intro @ite_true.{1}
 <| And.intro @ite_false.{1}
 <| And.intro @if_true.{1}
 <| @if_false.{1}
open Go.RowKit
section
variable {P:Program} {T:TypeId→Option TI} {C:Ctx} {m:Map} {s:St} {tmps:Array Value} {w:World} {Q:Exit→St→Prop}
theorem Rel.cells (R:Rel C m s tmps w) {k:Nat} {c c' : List AV} (hk:aA s.H k = .own c) (hl:c'.length=c.length)
  (hc:∀ j (h:j < c.length) (h' : j < c'.length) v,aG (Reads (OK C m s.H w) w) m s.H c[j] v→aG (Reads (OK C m s.H w) w) m s.H c'[j] v):Rel C m { s with H:=aF s.H k (.own c') } tmps w:=by
 have hk:=bE hk
 have hkl:k < s.H.length:=(List.getElem?_eq_some_iff.1 hk).1
 have aA:∀ (j:Nat) (b:aH),(aF s.H k (.own c'))[j]? = some b→(j=k∧b = .own c')∨(j ≠ k∧s.H[j]? = some b):=by
  intro j b h
  rw [bF] at h
  by_cases e:j=k
  ·rw [if_pos ⟨e,hkl⟩] at h; exact .inl ⟨e,(Option.some.inj h).symm⟩
  rw [if_neg (by simp [e])] at h; exact .inr ⟨e,h⟩
 have own:∀ (j:Nat) (d:List AV),(aF s.H k (.own c'))[j]? = some (.own d)→∃ d',s.H[j]? = some (.own d'):=by
  intro j d h
  rcases aA j _ h with ⟨rfl,h⟩ | h
  ·exact ⟨c,hk⟩
  exact ⟨d,h.2⟩
 have hok:∀ b,OK C m s.H w b→∀ j d l,(aF s.H k (.own c'))[j]? = some (.own d)→m j=some l→l.g ≠ b:=fun b hb j d l h hl=>by
  obtain ⟨d',h'⟩:=own j d h
  exact hb.2.2 j d' l h' hl
 have ho:∀ b,OK C m s.H w b→OK C m (aF s.H k (.own c')) w b:=fun b h=>⟨h.1,h.2.1,hok b h⟩
 refine R.heap (ca.refl _ _) (by simp [aB]) (fun _ _=>rfl) hok (fun _ _=>rfl) ?_ ?_ ?_ (ma rfl)
 ·intro j j' c1 c2 l1 l2 h1 h2 h3 h4 h5
  obtain ⟨d1,g1⟩:=own j c1 h1
  obtain ⟨d2,g2⟩:=own j' c2 h2
  exact R.inj j j' d1 d2 l1 l2 g1 g2 h3 h4 h5
 ·intro j d h
  rcases aA j _ h with ⟨rfl,h'⟩ | ⟨hne,h⟩
  ·cases h'
   rcases R.blk j c hk with ⟨hc0,hn⟩ | ⟨l,cur,e,hl2,hB,hg,h1,h2,h3,hcells⟩
   ·subst hc0
    exact .inl ⟨List.eq_nil_of_length_eq_zero (by simpa using hl),hn⟩
   refine .inr ⟨l,cur,e,hl2,hB,hg,h1,h2,by omega,fun i hi=>?_⟩
   exact (hc i (by omega) hi _ (hcells i (by omega))).ext (fun p v h=>h.ext ho fun _ _=>rfl) (by simp [aB]) fun _ _=>rfl
  exact (R.blk j d h).ext (fun p v h=>h.ext ho fun _ _=>rfl) (by simp [aB]) (fun _ _=>rfl) rfl fun _ _=>rfl
 intro j d h
 rcases aA j _ h with ⟨rfl,h'⟩ | ⟨hne,h⟩
 ·cases h'
 exact (R.fro j d h).ext ho (fun _ _=>rfl) rfl
theorem ux {c:Code} (k:Nat) {b b' : List AV} (hk:aA s.H k = .own b) (hl:b'.length=b.length)
  (hc:∀ C m tmps w,Rel C m s tmps w→∀ j (h:j < b.length) (h' : j < b'.length) v,aG (Reads (OK C m s.H w) w) m s.H b[j] v→aG (Reads (OK C m s.H w) w) m s.H b'[j] v)
  (h:Holds P c Q { s with H:=aF s.H k (.own b') }):Holds P c Q s:=
 fun r ds C m a w R hd=>h r ds C m a w (R.cells hk hl (hc C m a.tmps w R)) hd
theorem qJ {c:Code} (k j:Nat) {b:List AV} (hk:aA s.H k = .own b) (hj:b[j]? = some (.p .nil)) (h:Holds P c Q { s with H:=aF (s.H++[.own []]) k (.own (b.set j (.sl s.H.length 0 0))) }):Holds P c Q s:=by
 intro r ds C m a w R hd
 have R':=R.tB
 have hk' : aA (s.H++[.own []]) k = .own b:=by
  have h1:=bE hk
  have key:∀ (H:az) (k:Nat) (b:aH) (H2:az),H[k]? = some b→aA (H++H2) k=b:=by
   intro H
   induction H with
   | nil=>intro k b H2 h; simp at h
   | cons x r ih =>
    intro k b H2 h
    cases k with
    | zero=>simp at h; exact h
    | succ k=>exact ih k b H2 (by simpa using h)
  exact key _ _ _ _ h1
 refine h r ds C _ a w (R'.cells (s:={ s with H:=s.H++[.own []] }) hk' (by simp) fun i hi hi' v hv=>?_) hd
 by_cases e:j=i
 ·subst e
  rw [List.getElem_set_self]
  have hb:b[j] = .p .nil:=by
   rw [List.getElem?_eq_getElem hi] at hj
   exact Option.some.inj hj
  rw [hb] at hv
  have:=hv.aN.fk
  subst this
  exact .sl _ _ _ _ (by simp) <| .inl ⟨rfl,none,rfl⟩
 rw [List.getElem_set_ne e]
 exact hv
theorem l7 {c:Code} (k j:Nat) {b:List AV} {x:AV} (hk:aA s.H k = .own b) (hj:b[j]? = some x) {p:Prop} {pv:PV} (hx:cg s.H x=some (p,pv,true)) (hp:p)
  (h:Holds P c Q { s with H:=aF s.H k (.own (b.set j (.p pv))) }):Holds P c Q s:=by
 refine ux k hk (by simp) (fun C m tmps w R i hi hi' v hv=>?_) h
 by_cases e:j=i
 ·subst e
  rw [List.getElem_set_self]
  have hb:b[j]=x:=by
   rw [List.getElem?_eq_getElem hi] at hj
   exact Option.some.inj hj
  rw [hb] at hv
  exact .p _ _ ((kG R hv hx hp).2 rfl)
 rw [List.getElem_set_ne e]
 exact hv
end
def bq (l:List PV):List AV:=l.map .p
theorem aJ (l:List PV):(bq l).length=l.length:=by simp [bq]
theorem A1 (l:List PV) (n:Nat):(bq l).take n=bq (l.take n):=by simp [bq]
theorem Bw (l:List PV) (n:Nat):(bq l).drop n=bq (l.drop n):=by simp [bq]
theorem wY (l r:List PV):bq l++bq r=bq (l++r):=by simp [bq]
theorem AJ (l:List PV) (x:PV):bq l++[.p x]=bq (l++[x]):=by simp [bq]
theorem iW (l:List PV) (π:List Nat):(bq l).map (Go.Pv.aY π)=bq l:=by simp [bq,Go.Pv.aY,bg]
theorem jY (l:List PV) (n:Nat):(bq l).all (bj n)=true:=by simp [bq,bj,bn]
theorem qE (l:List PV):e8 (bq l)=some l:=by
 unfold bq
 induction l with
 | nil=>rfl
 | cons x r ih=>simp [e8,ih]
theorem Bu {l:List PV} (h:l.all PV.one=true):(bq l).all bm=true:=by
 unfold bq
 rw [List.all_map]
 exact h
theorem GO (r:List (List Int)):(bq (ll r)).all bm=true:=Bu (jL r)
theorem Ef (r:List (List Int)) (x:List Int):ll r++[.list (il x)]=ll (r++[x]):=by simp [ll]
def Jo:=And.intro @aJ
 <| And.intro @A1
 <| And.intro @Bw
 <| And.intro @wY
 <| And.intro @AJ
 <| And.intro @iW
 <| And.intro @jY
 <| And.intro @qE
 <| And.intro @GO
 <| And.intro @Ef
 <| And.intro @aC
 <| And.intro @jL
 <| @uZ
def an := And.intro Jr <| And.intro Jx <| And.intro JC Jo
theorem gy:∀ (H:az) (k:Nat) (b:aH),k < H.length→aA (aF H k b) k=b
 | [],k,b,h=>by simp at h
 | x :: r,0,b,h=>rfl
 | x :: r,k + 1,b,h=>gy r k b (by simpa using h)
theorem mI {P:Program} {s:St} {c:Code} {Q:Exit→St→Prop} (t k:Nat) {l:List PV} (hone:l.all PV.one=true) (h1:s.get t = .sl k 0 l.length) (h2:aA s.H k = .own (bq l)) (h:Holds P c Q { s with sl:=(t,.p (.list l)) :: s.sl,H:=aF s.H k (.fro l) }):Holds P c Q s:=by
 refine er k h2 (qE l) (sB (s:={ s with H:=aF s.H k (.fro l) }) t (p:=0 + l.length≤l.length∧((l.drop 0).take l.length).all PV.one=true) (pv:=.list ((l.drop 0).take l.length)) ?_ ?_ ?_)
 ·have e:({ s with H:=aF s.H k (.fro l) } : St).get t = .sl k 0 l.length:=h1
  rw [e]
  have hk:=bE h2
  have hkl:k < s.H.length:=(List.getElem?_eq_some_iff.1 hk).1
  simp only [bH,cg,gy _ _ _ hkl]
 ·simp only [List.drop_zero,dX]
  exact ⟨by omega,hone⟩
 simp only [List.drop_zero,dX]
 exact h
open Go.RowKit
inductive bB (κ:Nat):AV→Prop
 | dead:bB κ .dead
 | p (v:PV):bB κ (.p v)
 | sl (k lo len:Nat) (h:k ≠ κ):bB κ (.sl k lo len)
 | ptr (k i:Nat) (h:k ≠ κ):bB κ (.ptr k i)
 | mptr (k:Nat) (h:k ≠ κ):bB κ (.mptr k)
 | yv (k:Nat) (l:List AV) (vs:Array Value) (h:k ≠ κ) (h2:∀ c (h:c < l.length),bB κ l[c]):bB κ (.yv k l vs)
 | agg (l:List AV) (h:∀ c (h:c < l.length),bB κ l[c]):bB κ (.agg l)
 | tup (l:List AV) (h:∀ c (h:c < l.length),bB κ l[c]):bB κ (.tup l)
 | cl (f:FuncId) (l:List AV) (h:∀ c (h:c < l.length),bB κ l[c]):bB κ (.cl f l)
 | itv (r:Nat):bB κ (.itv r)
 | sls (k lo len sz:Nat) (h:k ≠ κ):bB κ (.sls k lo len sz)
def xR (κ:Nat):AV→Bool
 | .sl k _ _=>k != κ
 | .sls k _ _ _=>k != κ
 | .ptr k _=>k != κ
 | .mptr k=>k != κ
 | .agg _=>false
 | .tup _=>false
 | .cl _ _=>false
 | .yv _ _ _=>false
 | _=>true
def HQ (κ:Nat):AV→Bool
 | .agg l=>l.all (xR κ)
 | .tup l=>l.all (xR κ)
 | .cl _ l=>l.all (xR κ)
 | .yv k l _=>(k != κ) && l.all (xR κ)
 | x=>xR κ x
theorem fJ {κ:Nat} {x:AV} (h:xR κ x=true):bB κ x:=by
 cases x with
 | dead=>exact .dead
 | p v=>exact .p v
 | sl k lo len=>exact .sl _ _ _ (by simpa [xR] using h)
 | ptr k i=>exact .ptr _ _ (by simpa [xR] using h)
 | mptr k=>exact .mptr _ (by simpa [xR] using h)
 | yv k l vs=>simp [xR] at h
 | agg l=>simp [xR] at h
 | tup l=>simp [xR] at h
 | cl f l=>simp [xR] at h
 | itv r=>exact .itv r
 | sls k lo len sz=>exact .sls _ _ _ _ (by simpa [xR] using h)
theorem uF {κ:Nat} {x:AV} (h:HQ κ x=true):bB κ x:=by
 cases x with
 | agg l=>exact .agg l fun c hc=>fJ ((List.all_eq_true.1 h) _ (List.getElem_mem hc))
 | tup l=>exact .tup l fun c hc=>fJ ((List.all_eq_true.1 h) _ (List.getElem_mem hc))
 | cl f l=>exact .cl f l fun c hc=>fJ ((List.all_eq_true.1 h) _ (List.getElem_mem hc))
 | dead=>exact .dead
 | p v=>exact .p v
 | sl k lo len=>exact fJ h
 | ptr k i=>exact fJ h
 | mptr k=>exact fJ h
 | yv k l vs =>
  simp only [HQ,Bool.and_eq_true,bne_iff_ne] at h
  exact .yv _ _ _ h.1 fun c hc=>fJ ((List.all_eq_true.1 h.2) _ (List.getElem_mem hc))
 | itv r=>exact .itv r
 | sls k lo len sz=>exact fJ h
theorem aG.uw {rd:PV→Value→Prop} {m:Map} {H:az} {x:AV} {v:Value} (h:aG rd m H x v) {κ:Nat} (hk:H.length≤κ):bB κ x:=by
 induction h with
 | dead v=>exact .dead
 | p pv v h=>exact .p pv
 | sl k lo len v hk' h=>exact .sl _ _ _ (by omega)
 | ptr k i v hk' h=>exact .ptr _ _ (by omega)
 | mptr k v hk' h=>exact .mptr _ (by omega)
 | yv k l vs v hk' h hl hr ih=>exact .yv _ _ _ (by omega) ih
 | agg l vs hl hr ih=>exact .agg l ih
 | tup l vs hl hr ih=>exact .tup l ih
 | cl f l vs hl hr ih=>exact .cl f l ih
 | itv r=>exact .itv r
 | sls k lo len sz v hk' h=>exact .sls _ _ _ _ (by omega)
theorem aG.G0 {rd rd' : PV→Value→Prop} {m m' : Map} {H H' : az} {κ L:Nat} (h1:∀ p v,rd p v→rd' p v) (h2:∀ k,k ≠ κ→k ≠ L→k < H.length→m' k=m k∧k < H'.length) {a:AV} {v:Value} (h:aG rd m H a v) (hk:bB κ a) (hL:bB L a):aG rd' m' H' a v:=by
 induction h with
 | dead v=>exact .dead v
 | p pv v h=>exact .p pv v (h1 _ _ h)
 | sl k lo len v hk' h =>
  cases hk with
  | sl _ _ _ e1 =>
  cases hL with
  | sl _ _ _ e2 =>
  obtain ⟨e3,e4⟩:=h2 k e1 e2 hk'
  refine .sl k lo len v e4 ?_
  rcases h with h | ⟨l,cap,h,r⟩
  ·exact .inl h
  exact .inr ⟨l,cap,by rw [e3]; exact h,r⟩
 | mptr k v hk' h =>
  cases hk with
  | mptr _ e1 =>
  cases hL with
  | mptr _ e2 =>
  obtain ⟨e3,e4⟩:=h2 k e1 e2 hk'
  refine .mptr k v e4 ?_
  obtain ⟨l,h,r⟩:=h
  exact ⟨l,by rw [e3]; exact h,r⟩
 | yv k l vs v hk' h hl hr ih =>
  cases hk with
  | yv _ _ _ e1 f1 =>
  cases hL with
  | yv _ _ _ e2 f2 =>
  obtain ⟨e3,e4⟩:=h2 k e1 e2 hk'
  refine .yv k l vs v e4 ?_ hl fun c hc=>ih c hc (f1 c hc) (f2 c hc)
  obtain ⟨l,h,r⟩:=h
  exact ⟨l,by rw [e3]; exact h,r⟩
 | ptr k i v hk' h =>
  cases hk with
  | ptr _ _ e1 =>
  cases hL with
  | ptr _ _ e2 =>
  obtain ⟨e3,e4⟩:=h2 k e1 e2 hk'
  refine .ptr k i v e4 ?_
  obtain ⟨l,h,r⟩:=h
  exact ⟨l,by rw [e3]; exact h,r⟩
 | agg l vs hl hr ih =>
  cases hk with
  | agg _ e1 =>
  cases hL with
  | agg _ e2=>exact .agg l vs hl fun c hc=>ih c hc (e1 c hc) (e2 c hc)
 | tup l vs hl hr ih =>
  cases hk with
  | tup _ e1 =>
  cases hL with
  | tup _ e2=>exact .tup l vs hl fun c hc=>ih c hc (e1 c hc) (e2 c hc)
 | cl f l vs hl hr ih =>
  cases hk with
  | cl _ _ e1 =>
  cases hL with
  | cl _ _ e2=>exact .cl f l vs hl fun c hc=>ih c hc (e1 c hc) (e2 c hc)
 | itv r=>exact .itv r
 | sls k lo len sz v hk' h =>
  cases hk with
  | sls _ _ _ _ e1 =>
  cases hL with
  | sls _ _ _ _ e2 =>
  obtain ⟨e3,e4⟩:=h2 k e1 e2 hk'
  refine .sls k lo len sz v e4 ?_
  rcases h with h | ⟨l,cap,h,r⟩
  ·exact .inl h
  exact .inr ⟨l,cap,by rw [e3]; exact h,r⟩
section
variable {P:Program} {T:TypeId→Option TI} {C:Ctx} {m:Map} {s:St} {tmps:Array Value} {w:World}
theorem bO:∀ (H:az) (k j:Nat) (b:aH),aA (aF H k b) j=if j=k∧k < H.length then b else aA H j
 | [],k,j,b=>by simp [aF]
 | x :: r,0,0,b=>by simp [aF,aA]
 | x :: r,0,j + 1,b=>by simp [aF,aA]
 | x :: r,k + 1,0,b=>by simp [aF,aA]
 | x :: r,k + 1,j + 1,b=>by simp [aF,aA,bO r k j b]
theorem iJ:∀ {H H' : az},H.length=H'.length→(∀ j,aA H j=aA H' j)→H=H'
 | [],[],_,_=>rfl
 | x :: r,y :: t,hl,h=>by
  have h0:=h 0
  simp only [aA] at h0
  rw [h0,iJ (H:=r) (H':=t) (by simpa using hl) fun j=>by simpa [aA] using h (j + 1)]
 | [],_ :: _,hl,_=>by simp at hl
 | _ :: _,[],hl,_=>by simp at hl
theorem bX:∀ {H H2:az} {j:Nat},j < H.length→aA (H++H2) j=aA H j
 | x :: r,H2,0,_=>rfl
 | x :: r,H2,j + 1,h=>by simpa [aA] using bX (H:=r) (H2:=H2) (j:=j) (by simpa using h)
 | [],H2,j,h=>by simp at h
theorem bc:∀ {H H2:az} {j:Nat},H.length≤j→aA (H++H2) j=aA H2 (j - H.length)
 | [],H2,j,_=>by simp
 | x :: r,H2,0,h=>by simp at h
 | x :: r,H2,j + 1,h=>by
  simp only [List.cons_append,aA,List.length_cons]
  rw [bc (H:=r) (by simpa using h)]
  congr 1; omega
theorem lS:∀ (n j:Nat),aA (List.replicate n aH.dead) j = .dead
 | 0,j=>rfl
 | n + 1,0=>rfl
 | n + 1,j + 1=>by simpa [List.replicate_succ,aA] using lS n j
theorem Rel.pad (R:Rel C m s tmps w) (n:Nat):Rel C m { s with H:=s.H++List.replicate n .dead } tmps w:=by
 have hg:∀ (k:Nat) (b:aH),(s.H++List.replicate n .dead)[k]? = some b→b ≠ .dead→s.H[k]? = some b:=by
  intro k b h hb
  by_cases hk:k < s.H.length
  ·rwa [List.getElem?_append_left hk] at h
  rw [List.getElem?_append_right (by omega),List.getElem?_replicate] at h
  split at h
  ·cases h; exact absurd rfl hb
  cases h
 have hok:∀ b,OK C m s.H w b→∀ k c l,(s.H++List.replicate n .dead)[k]? = some (.own c)→m k=some l→l.g ≠ b:=fun b hb k c l h hl=>hb.2.2 k c l (hg k _ h (by simp)) hl
 have ho:∀ b,OK C m s.H w b→OK C m (s.H++List.replicate n .dead) w b:=fun b h=>⟨h.1,h.2.1,hok b h⟩
 refine R.heap (ca.refl _ _) (by simp) (fun _ _=>rfl) hok (fun _ _=>rfl) ?_ ?_ ?_ (fun k b hb h=>hg k _ h (by intro e; subst e; cases hb))
 ·exact fun k k' c c' l l' h1 h2 h3 h4 h5=>R.inj k k' c c' l l' (hg k _ h1 (by simp)) (hg k' _ h2 (by simp)) h3 h4 h5
 ·exact fun k c h=>(R.blk k c (hg k _ h (by simp))).ext (fun p v h=>h.ext ho fun _ _=>rfl) (by simp) (fun _ _=>rfl) rfl fun _ _=>rfl
 exact fun k c h=>(R.fro k c (hg k _ h (by simp))).ext ho (fun _ _=>rfl) rfl
theorem Rel.move {m' : Map} {b:aH} {w' : World} {κ:Nat} (R:Rel C m s tmps w) (R' : Rel C m' { s with H:=s.H++[b] } tmps w') (hκ:s.H[κ]? = some .dead) (ha:∀ (k i j:Nat),s.H[k]? = some (aH.bf i j)→j ≠ κ) (ha2:∀ i j,b ≠ aH.bf i j)
  (hn:∀ t,bB κ (s.get t)) (hc:∀ (k:Nat) (c:List AV),s.H[k]? = some (aH.own c)→∀ (j:Nat) (h:j < c.length),bB κ c[j]) (hb:∀ (c:List AV),b=aH.own c→∀ (j:Nat) (h:j < c.length),bB κ c[j]∧bB s.H.length c[j]) :
  Rel C (bR m' κ (m' s.H.length)) { s with H:=aF s.H κ b } tmps w'∧(∀ i v,aG (Reads (OK C m' (s.H++[b]) w') w') m' (s.H++[b]) (.ptr s.H.length i) v→aG (Reads (OK C (bR m' κ (m' s.H.length)) (aF s.H κ b) w') w') (bR m' κ (m' s.H.length)) (aF s.H κ b) (.ptr κ i) v) ∧
   (∀ lo len v,aG (Reads (OK C m' (s.H++[b]) w') w') m' (s.H++[b]) (.sl s.H.length lo len) v→aG (Reads (OK C (bR m' κ (m' s.H.length)) (aF s.H κ b) w') w') (bR m' κ (m' s.H.length)) (aF s.H κ b) (.sl κ lo len) v):=by
 have hκl:κ < s.H.length:=(List.getElem?_eq_some_iff.1 hκ).1
 have hml:∀ k,k ≠ κ→bR m' κ (m' s.H.length) k=m' k:=fun k hk=>by simp [bR,hk]
 have hmk:bR m' κ (m' s.H.length) κ=m' s.H.length:=by simp [bR]
 have hgl:(s.H++[b])[s.H.length]? = some b:=by simp
 have hg:∀ (k:Nat) (d:aH),(aF s.H κ b)[k]? = some d→(k=κ∧d=b)∨(k ≠ κ∧s.H[k]? = some d∧(s.H++[b])[k]? = some d):=by
  intro k d h
  rw [bF] at h
  by_cases e:k=κ
  ·rw [if_pos ⟨e,hκl⟩] at h; exact .inl ⟨e,(Option.some.inj h).symm⟩
  rw [if_neg (by simp [e])] at h
  exact .inr ⟨e,h,by rw [List.getElem?_append_left (List.getElem?_eq_some_iff.1 h).1]; exact h⟩
 have hok:∀ x,OK C m' (s.H++[b]) w' x→OK C (bR m' κ (m' s.H.length)) (aF s.H κ b) w' x:=by
  refine fun x hx=>⟨hx.1,hx.2.1,fun k c l h hl=>?_⟩
  rcases hg k _ h with ⟨rfl,e⟩ | ⟨hne,_,h2⟩
  ·rw [hmk] at hl
   exact hx.2.2 _ c l (by rw [hgl,e]) hl
  rw [hml k hne] at hl
  exact hx.2.2 k c l h2 hl
 have hrd:∀ p v,Reads (OK C m' (s.H++[b]) w') w' p v→Reads (OK C (bR m' κ (m' s.H.length)) (aF s.H κ b) w') w' p v:=fun p v h=>h.mono hok
 have hmv:∀ k,k ≠ κ→k ≠ s.H.length→k < (s.H++[b]).length→bR m' κ (m' s.H.length) k=m' k∧k < (aF s.H κ b).length:=by
  intro k h1 h2 h3
  refine ⟨hml k h1,?_⟩
  rw [aB]; simp at h3; omega
 have zK:∀ (k:Nat) (kk:IntKind) (d:Int→Bool) (v:Int→PV),(aF s.H κ b)[k]? = some (aH.mp kk d v)→∃ j,(s.H++[b])[j]? = some (aH.mp kk d v)∧bR m' κ (m' s.H.length) k=m' j∧(k=κ∧j=s.H.length∨k ≠ κ∧j=k∧k < s.H.length):=by
  intro k kk d v h
  rcases hg k _ h with ⟨rfl,e⟩ | ⟨hne,h1,h2⟩
  ·exact ⟨s.H.length,by rw [hgl,e],hmk,.inl ⟨rfl,rfl⟩⟩
  exact ⟨k,h2,hml k hne,.inr ⟨hne,rfl,(List.getElem?_eq_some_iff.1 h1).1⟩⟩
 refine ⟨⟨R'.laid.ext hrd,R'.below,R'.base,R'.size,?_,?_,?_,fun t=>?_,fun k kk d v h=>?_,fun k k' kk d v kk' d' v' l l' h1 h2 h3 h4 h5=>?_,fun k i j h=>?_,?_⟩,fun i v hv=>?_,fun lo len v hv=>?_⟩
 rotate_left 7
 ·have lps:∀ (k:Nat) (r:Loop),(aF s.H κ b)[k]? = some (aH.lp r)→∃ j,(s.H++[b])[j]? = some (aH.lp r)∧bR m' κ (m' s.H.length) k=m' j∧j=(if k=κ then s.H.length else k)∧k < s.H.length:=by
   intro k r h
   rcases hg k _ h with ⟨rfl,e⟩ | ⟨hne,h1,h2⟩
   ·exact ⟨s.H.length,by rw [hgl,e],hmk,by simp,hκl⟩
   exact ⟨k,h2,hml k hne,by simp [hne],(List.getElem?_eq_some_iff.1 h1).1⟩
  refine R'.mp.2.2.2.ext (fun k=>if k=κ then s.H.length else k) (fun k r h=>?_) (fun k k' r r' h1 h2 e=>?_) (fun _ _ _ _ _ _=>rfl) fun _ _ _ _ _ h=>h
  ·obtain ⟨j,j1,j2,j3,_⟩:=lps k r h
   simp only [← j3]; exact ⟨j1,j2⟩
  obtain ⟨_,_,_,_,j4⟩:=lps k r h1
  obtain ⟨_,_,_,_,i4⟩:=lps k' r' h2
  split at e<;>split at e<;>omega
 rotate_left 2
 rotate_left 4
 ·obtain ⟨j,j1,j2,_⟩:=zK k kk d v h
  obtain ⟨l,ar,clk,vs,a1,a2,a3,a4,a5,a6,a7⟩:=R'.mp.1 j kk d v j1
  exact ⟨l,ar,clk,vs,by rw [j2]; exact a1,a2,a3,a4,a5,a6,fun z hz=>hrd _ _ (a7 z hz)⟩
 ·obtain ⟨j,j1,j2,j3⟩:=zK _ _ _ _ h1
  obtain ⟨i,i1,i2,i3⟩:=zK _ _ _ _ h2
  rw [j2] at h3; rw [i2] at h4
  have:=R'.mp.2.1 _ _ _ _ _ _ _ _ _ _ j1 i1 h3 h4 h5
  omega
 ·rcases hg k _ h with ⟨rfl,e⟩ | ⟨hne,h1,h2⟩
  ·exact absurd e.symm (ha2 i j)
  obtain ⟨c1,c2⟩:=R'.mp.2.2.1 k i j h2
  have hj:=(R.mp.2.2.1 k i j h1).1
  exact ⟨by rw [aB]; exact hj,by rw [hml j (ha k i j h1)]; exact c2⟩
 rotate_left 2
 ·intro k k' c c' l l' h1 h2 h3 h4 h5
  rcases hg k _ h1 with ⟨rfl,e1⟩ | ⟨n1,g1,f1⟩<;>rcases hg k' _ h2 with ⟨rfl,e2⟩ | ⟨n2,g2,f2⟩
  ·rfl
  ·rw [hmk] at h3; rw [hml k' n2] at h4
   have:=R'.inj _ k' c c' l l' (by rw [hgl,e1]) f2 h3 h4 h5
   have:=(List.getElem?_eq_some_iff.1 g2).1
   omega
  ·rw [hmk] at h4; rw [hml k n1] at h3
   have:=R'.inj k _ c c' l l' f1 (by rw [hgl,e2]) h3 h4 h5
   have:=(List.getElem?_eq_some_iff.1 g1).1
   omega
  rw [hml k n1] at h3; rw [hml k' n2] at h4
  exact R'.inj k k' c c' l l' f1 f2 h3 h4 h5
 ·intro k c h
  rcases hg k _ h with ⟨rfl,e1⟩ | ⟨n1,g1,f1⟩
  ·rcases R'.blk _ c (by rw [hgl,e1]) with ⟨a1,a2⟩ | ⟨l,cur,e,a1,a2,a3,a4,a5,a6,a7⟩
   ·exact .inl ⟨a1,by rw [hmk]; exact a2⟩
   exact .inr ⟨l,cur,e,by rw [hmk]; exact a1,a2,a3,a4,a5,a6,fun j hj=>(a7 j hj).G0 hrd hmv (hb c e1.symm j hj).1 (hb c e1.symm j hj).2⟩
  rcases R'.blk k c f1 with ⟨a1,a2⟩ | ⟨l,cur,e,a1,a2,a3,a4,a5,a6,a7⟩
  ·exact .inl ⟨a1,by rw [hml k n1]; exact a2⟩
  refine .inr ⟨l,cur,e,by rw [hml k n1]; exact a1,a2,a3,a4,a5,a6,fun j hj=>(a7 j hj).G0 hrd hmv (hc k c g1 j hj) ?_⟩
  rcases R.blk k c g1 with ⟨b1,_⟩ | ⟨l2,cur2,e2,_,_,_,_,_,_,b7⟩
  ·subst b1; simp at hj
  exact (b7 j hj).uw (Nat.le_refl _)
 ·intro k c h
  rcases hg k _ h with ⟨rfl,e1⟩ | ⟨n1,g1,f1⟩
  ·rcases R'.fro _ c (by rw [hgl,e1]) with ⟨a1,a2⟩ | ⟨l,vs,a1,a2,a3,a4⟩
   ·exact .inl ⟨a1,by rw [hmk]; exact a2⟩
   exact .inr ⟨l,vs,by rw [hmk]; exact a1,hok _ a2,a3,fun j hj=>⟨(a4 j hj).1,(a4 j hj).2.mono hok⟩⟩
  exact (R'.fro k c f1).ext hok (fun _ _=>rfl) (hml k n1)
 ·exact (R'.slot t).G0 hrd hmv (hn t) ((R.slot t).uw (Nat.le_refl _))
 ·cases hv with
  | ptr _ _ _ hk h =>
   obtain ⟨l,h,r⟩:=h
   exact .ptr _ _ _ (by rw [aB]; exact hκl) ⟨l,by rw [hmk]; exact h,r⟩
 cases hv with
 | sl _ _ _ _ hk h =>
  refine .sl _ _ _ _ (by rw [aB]; exact hκl) ?_
  rcases h with h | ⟨l,cap,h,r⟩
  ·exact .inl h
  exact .inr ⟨l,cap,by rw [hmk]; exact h,r⟩
end
open Go.RowKit
inductive fK where
 | f
 | ld (k:Nat)
 | st (k:Nat)
 | nw (k:Nat)
 | ap (k k' : Nat)
 | ms (l:List (Nat × aH)) 
instance:Inhabited fK:=⟨.f⟩
def fK.n9:fK→Nat→Bool
 | .f,_=>false
 | .ld k,b=>k == b
 | .st k,b=>k == b
 | .nw k,b=>k == b
 | .ap k k',b=>k == b || k' == b
 | .ms l,b=>l.any fun p=>p.1 == b
def fK.mD:fK→Nat→Bool
 | .st k,b=>k == b
 | .nw k,b=>k == b
 | .ap k k',b=>k == b || k' == b
 | .ms l,b=>l.any fun p=>p.1 == b
 | _,_=>false
def fK.mk:fK→Option Nat
 | .nw k=>some k
 | .ap _ k'=>some k'
 | _=>none
def nU:fK→fK→Bool
 | .f,_=>false
 | _,.f=>false
 | .ld _,.ld _=>false
 | .ld a,y=>y.n9 a
 | .st a,y=>y.n9 a
 | .nw a,y=>y.n9 a
 | .ap a a',y=>y.n9 a || y.n9 a'
 | .ms l,y=>l.any fun p=>y.n9 p.1
theorem fK.sw {c:fK} {b:Nat} (h:c.mD b=true):c.n9 b=true:=by
 cases c<;>simp_all [fK.mD,fK.n9]
theorem rE {x y:fK} (h:nU x y=false) {b:Nat} (hx:x.n9 b=true) (hy:y.n9 b=true):(∃ k,x = .ld k)∧∃ k,y = .ld k:=by
 have any_no:∀ {l:List (Nat × aH)} {q:Nat→Bool},(l.any fun p=>q p.1)=false→(l.any fun p=>p.1 == b)=true→q b=false:=by
  intro l q h1 h2
  obtain ⟨p,hp,e⟩:=List.any_eq_true.1 h2
  have e:p.1=b:=by simpa using e
  have:=List.any_eq_false.1 h1 p hp
  rw [e] at this
  simpa using this
 cases x with
 | ms l =>
  exfalso
  cases y with
  | f=>simp [fK.n9] at hy
  | _ =>
   have h':=any_no (q:=fun k=>fK.n9 _ k) (by simpa [nU] using h) (by simpa [fK.n9] using hx)
   rw [hy] at h'; cases h'
 | _ =>
  cases y with
  | ms l =>
   exfalso
   simp only [nU,fK.n9,beq_iff_eq,Bool.or_eq_true,Bool.or_eq_false_iff] at h hx hy
   first
    | (cases hx; done)
    | (subst hx; rw [hy] at h; cases h; done)
    | (rcases hx with hx|hx<;>subst hx<;>first|(rw [hy] at h; exact absurd h.1 (by decide))|(rw [hy] at h; exact absurd h.2 (by decide)))
  | _=>first|exact ⟨⟨_,rfl⟩,⟨_,rfl⟩⟩|(exfalso; simp [nU,fK.n9] at h hx hy; done)|(exfalso; simp [nU,fK.n9] at h hx hy; omega)
theorem lb {x y:fK} (h:nU x y=false) (b:Nat):¬ (x.n9 b=true∧y.mD b=true)∧¬ (x.mD b=true∧y.n9 b=true):=by
 constructor
 ·rintro ⟨h1,h2⟩
  obtain ⟨_,k,e⟩:=rE h h1 (fK.sw h2)
  subst e; cases h2
 rintro ⟨h1,h2⟩
 obtain ⟨⟨k,e⟩,_⟩:=rE h (fK.sw h1) h2
 subst e; cases h1
structure I2 where
 c:fK
 av:AV
 b:aH
 pu:Bool
instance:Inhabited I2:=⟨⟨.f,.dead,.dead,false⟩⟩
def I2.pW (x:I2):List aH:=
 match x.c with
 | .ms l=>l.map (·.2)
 | _=>[x.b]
def I2.Pu (x:I2):Prop:=x.pu=true→∀ c,aH.own c∈x.pW→∀ (q:Nat) (h:q < c.length) (κ:Nat),bB κ c[q]
def mc:az→List (Nat × aH)→az
 | H,[]=>H
 | H,p :: l=>aF (mc H l) p.1 p.2
def C9 (j:Nat):List (Nat × aH)→aH
 | []=>.dead
 | p :: l=>if p.1=j then p.2 else C9 j l
theorem cM:∀ (l:List (Nat × aH)) (H:az),(mc H l).length=H.length
 | [],H=>rfl
 | p :: l,H=>by rw [mc,aB,cM l H]
theorem gk (H:az) (j:Nat):∀ l:List (Nat × aH),aA (mc H l) j=if (l.any fun p=>p.1 == j)=true∧j < H.length then C9 j l else aA H j
 | []=>by simp [mc]
 | p :: l=>by
  rw [mc,bO,cM,gk H j l]
  simp only [List.any_cons,Bool.or_eq_true,beq_iff_eq,C9]
  by_cases h:p.1=j
  ·subst h
   by_cases hl:p.1 < H.length
   ·rw [if_pos ⟨rfl,hl⟩,if_pos ⟨.inl rfl,hl⟩,if_pos rfl]
   rw [if_neg (fun hh=>hl hh.2),if_neg (fun hh=>hl hh.2),if_neg (fun hh=>hl hh.2)]
  rw [if_neg (fun hh=>h hh.1.symm),if_neg h]
  by_cases h2:(l.any fun p=>p.1 == j)=true∧j < H.length
  ·rw [if_pos h2,if_pos ⟨.inr h2.1,h2.2⟩]
  rw [if_neg h2,if_neg (fun hh=>h2 ⟨hh.1.resolve_left h,hh.2⟩)]
theorem ya {j:Nat} : ∀ {l:List (Nat × aH)},C9 j l = .dead∨∃ p∈l,C9 j l=p.2
 | []=>.inl rfl
 | p :: l=>by
  simp only [C9]
  by_cases h:p.1=j
  ·rw [if_pos h]; exact .inr ⟨p,by simp,rfl⟩
  rw [if_neg h]
  rcases ya (l:=l) with h | ⟨q,hq,e⟩
  ·exact .inl h
  exact .inr ⟨q,by simp [hq],e⟩
def nh (x:I2) (H:az):az:=
 match x.c with
 | .ms l=>mc H l
 | .st k=>aF H k x.b
 | .nw k=>aF H k x.b
 | .ap k k'=>aF (aF H k .dead) k' x.b
 | _=>H
def lu (x:I2) (H:az):az:=
 match x.c with
 | .ms l=>mc H l
 | .st k=>aF H k x.b
 | .nw _=>H++[x.b]
 | .ap k _=>aF H k .dead++[x.b]
 | _=>H
def wv (x:I2) (j:Nat):aH:=
 match x.c with
 | .ap _ k'=>if k' = j then x.b else .dead
 | .ms l=>C9 j l
 | _=>x.b
theorem yL (x:I2) (j:Nat):wv x j = .dead∨wv x j∈x.pW:=by
 unfold wv I2.pW
 cases x.c with
 | ap k k' =>
  simp only
  split
  ·exact .inr (by simp)
  exact .inl rfl
 | ms l =>
  simp only
  rcases ya (j:=j) (l:=l) with h | ⟨p,hp,e⟩
  ·exact .inl h
  exact .inr (by rw [e]; exact List.mem_map.2 ⟨p,hp,rfl⟩)
 | _=>exact .inr (by simp)
theorem vB (x:I2) (H:az):(nh x H).length=H.length:=by
 unfold nh; split<;>simp [aB,cM]
theorem rH (x:I2) (H:az) (j:Nat):aA (nh x H) j=if x.c.mD j=true∧j < H.length then wv x j else aA H j:=by
 obtain ⟨c,av,b,pu⟩:=x
 cases c with
 | f=>simp [nh,fK.mD]
 | ms l=>simp only [nh,wv,fK.mD]; exact gk H j l
 | ld k=>simp [nh,fK.mD]
 | st k =>
  simp only [nh,wv,fK.mD,beq_iff_eq]
  rw [bO]
  by_cases h:j=k
  ·subst h; simp
  rw [if_neg (fun hh=>h hh.1),if_neg (fun hh=>h hh.1.symm)]
 | nw k =>
  simp only [nh,wv,fK.mD,beq_iff_eq]
  rw [bO]
  by_cases h:j=k
  ·subst h; simp
  rw [if_neg (fun hh=>h hh.1),if_neg (fun hh=>h hh.1.symm)]
 | ap k k' =>
  simp only [nh,wv,fK.mD,Bool.or_eq_true,beq_iff_eq]
  rw [bO,aB,bO]
  by_cases h:j=k'
  ·subst h
   by_cases hl:j < H.length
   ·rw [if_pos ⟨rfl,hl⟩,if_pos ⟨.inr rfl,hl⟩,if_pos rfl]
   rw [if_neg (fun hh=>hl hh.2),if_neg (show ¬ (j=k∧k < H.length) from fun hh=>hl (by rw [hh.1]; exact hh.2)),if_neg (show ¬ ((k=j∨j=j)∧j < H.length) from fun hh=>hl hh.2)]
  rw [if_neg (fun hh=>h hh.1)]
  by_cases h2:j=k
  ·subst h2
   simp [Ne.symm h]
  rw [if_neg (fun hh=>h2 hh.1),if_neg (fun hh=>by rcases hh.1 with e | e; exact h2 e.symm; exact h e.symm)]
def uy (P:Program) (o:Oper) (s:St) (x:I2):Prop:=
 match x.c with
 | .ms l=>((∀ p∈l,p.1 < s.H.length)∧∀ p∈l,∀ i j,p.2 ≠ .bf i j)∧∀ s2:St,s2.n=s.n→dW o s s2→(∀ p∈l,p.1 < s2.H.length∧aA s2.H p.1=aA s.H p.1)→bu P o s2 x.av (mc s2.H l)
 | .f=>∀ s2:St,s2.n=s.n→dW o s s2→bu P o s2 x.av s2.H
 | .ld k=>k < s.H.length∧∀ s2:St,s2.n=s.n→dW o s s2→aA s2.H k=aA s.H k→bu P o s2 x.av s2.H
 | .st k=>k < s.H.length∧∀ s2:St,s2.n=s.n→dW o s s2→aA s2.H k=aA s.H k→bu P o s2 x.av (aF s2.H k x.b)
 | .nw k=>k=s.H.length∧∀ s2:St,s2.n=s.n→dW o s s2→s2.H[k]? = some .dead→(∀ t,bB k (s2.get t))→(∀ (j:Nat) (c:List AV),s2.H[j]? = some (aH.own c)→∀ (i:Nat) (h:i < c.length),bB k c[i])→(∀ (b i j:Nat),s2.H[b]? = some (aH.bf i j)→j ≠ k)→bu P o s2 x.av (aF s2.H k x.b)
 | .ap q k=>(q < s.H.length∧k=s.H.length)∧∀ s2:St,s2.n=s.n→dW o s s2→aA s2.H q=aA s.H q→s2.H[k]? = some .dead→(∀ t,bB k (s2.get t))→(∀ (j:Nat) (c:List AV),s2.H[j]? = some (aH.own c)→∀ (i:Nat) (h:i < c.length),bB k c[i])→(∀ (b i j:Nat),s2.H[b]? = some (aH.bf i j)→j ≠ k)→bu P o s2 x.av (aF (aF s2.H q .dead) k x.b)
inductive uB (P:Program) (all:Array Oper):List Oper→List I2→St→St→Prop
 | nil (s:St):uB P all [] [] s s
 | skip {o:Oper} {r:List Oper} {xs:List I2} {s s' : St} (hg:a8 all s o=some false) (hd:∀ t,o.dst=some t→t < s.n) (hr:uB P all r xs (s.put o.dst (.p (.tup []))) s'):uB P all (o :: r) (⟨.f,.p (.tup []),.dead,false⟩ :: xs) s s'
 | op {o:Oper} {r:List Oper} {x:I2} {xs:List I2} {s s' : St} (hg:a8 all s o=some true) (hd:∀ t,o.dst=some t→t < s.n) (h:uy P o s x) (hp:x.Pu) (hr:uB P all r xs (({ s with H:=lu x s.H } : St).put o.dst x.av) s'):uB P all (o :: r) (x :: xs) s s'
section
variable {P:Program} {ops:Array Oper} {I:Nat→I2} {s:St}
def cS (ops:Array Oper) (I:Nat→I2) (s:St):Nat→St
 | 0=>s
 | k + 1=>({ cS ops I s k with H:=lu (I k) (cS ops I s k).H } : St).put (bP ops k).dst (I k).av
structure E6 (P:Program) (ops:Array Oper) (I:Nat→I2) (s:St) (j:Nat) (o:Oper):Prop where
 pu:(I j).Pu
 dst:∀ t,o.dst=some t→t < s.n
 how:(a8 ops (cS ops I s j) o=some false∧I j=⟨.f,.p (.tup []),.dead,false⟩)∨(a8 ops (cS ops I s j) o=some true∧uy P o (cS ops I s j) (I j))
theorem CI:∀ k,(cS ops I s k).n=s.n
 | 0=>rfl
 | k + 1=>by simp only [cS]; rw [St.jl]; exact CI k
theorem wS {s' : St} : ∀ (l:List Oper) (xs:List I2) (k:Nat),(∀ i,l[i]? = ops[k + i]?)→(∀ i x,xs[i]? = some x→I (k + i)=x)→k + l.length=ops.size →
  uB P ops l xs (cS ops I s k) s'→(∀ i o,k≤i→ops[i]? = some o→E6 P ops I s i o)∧s' = cS ops I s ops.size
 | [],xs,k,hl,hx,hk,hr=>by
  cases hr
  simp at hk
  subst hk
  refine ⟨fun i o hi ho=>?_,rfl⟩
  have:=(Array.getElem?_eq_some_iff.1 ho).1
  omega
 | o :: r,xs,k,hl,hx,hk,hr=>by
  have ho:ops[k]? = some o:=by have:=hl 0; simpa using this.symm
  have hod:bP ops k=o:=cN ho
  have hl' : ∀ i,r[i]? = ops[k + 1 + i]?:=fun i=>by have:=hl (i + 1); simp only [List.getElem?_cons_succ] at this; rw [this]; congr 1; omega
  have hn:=CI (ops:=ops) (I:=I) (s:=s) k
  cases hr with
  | skip hg hd hr =>
   rename_i xs
   have hIk:I k=⟨.f,.p (.tup []),.dead,false⟩:=by have:=hx 0 _ rfl; simpa using this
   have e:cS ops I s (k + 1)=(cS ops I s k).put o.dst (.p (.tup [])):=by simp only [cS]; rw [hIk,hod]; rfl
   rw [← e] at hr
   obtain ⟨g1,g2⟩:=wS r xs (k + 1) hl' (fun i x h=>by have:=hx (i + 1) x (by simpa using h); rw [← this]; congr 1; omega) (by simp at hk; omega) hr
   refine ⟨fun i o' hi ho'=>?_,g2⟩
   by_cases hik:i=k
   ·subst hik
    rw [ho] at ho'; cases ho'
    exact ⟨by rw [hIk]; intro h; (cases h),fun t ht=>by rw [← hn]; exact hd t ht,.inl ⟨hg,hIk⟩⟩
   exact g1 i o' (by omega) ho'
  | op hg hd h hpu hr =>
   rename_i x xs
   have hIk:I k=x:=by have:=hx 0 _ rfl; simpa using this
   have e:cS ops I s (k + 1)=({ cS ops I s k with H:=lu x (cS ops I s k).H } : St).put o.dst x.av:=by simp only [cS]; rw [hIk,hod]
   rw [← e] at hr
   obtain ⟨g1,g2⟩:=wS r xs (k + 1) hl' (fun i x h=>by have:=hx (i + 1) x (by simpa using h); rw [← this]; congr 1; omega) (by simp at hk; omega) hr
   refine ⟨fun i o' hi ho'=>?_,g2⟩
   by_cases hik:i=k
   ·subst hik
    rw [ho] at ho'; cases ho'
    exact ⟨by rw [hIk]; exact hpu,fun t ht=>by rw [← hn]; exact hd t ht,.inr ⟨hg,by rw [hIk]; exact h⟩⟩
   exact g1 i o' (by omega) ho'
def tD (ops:Array Oper) (I:Nat→I2) (s:St) (L:Nat) (D:Nat→Bool):Nat→St
 | 0=>{ s with H:=s.H++List.replicate L .dead }
 | k + 1=>if D k then ({ tD ops I s L D k with H:=nh (I k) (tD ops I s L D k).H } : St).put (bP ops k).dst (I k).av else tD ops I s L D k
variable {L:Nat}
theorem wb (D:Nat→Bool):∀ k,(tD ops I s L D k).n=s.n
 | 0=>rfl
 | k + 1=>by
  simp only [tD]
  split
  ·rw [St.jl]; exact wb D k
  exact wb D k
theorem k8 (D:Nat→Bool):∀ k,(tD ops I s L D k).H.length=s.H.length + L
 | 0=>by simp [tD]
 | k + 1=>by
  simp only [tD]
  split
  ·rw [St.fD,vB]; exact k8 D k
  exact k8 D k
theorem iU (D:Nat→Bool) (k t:Nat):(tD ops I s L D (k + 1)).get t=if D k=true∧(bP ops k).dst=some t then (I k).av else (tD ops I s L D k).get t:=by
 simp only [tD]
 by_cases h:D k=true
 ·rw [if_pos h,dB]
  by_cases hd:(bP ops k).dst=some t
  ·have hr:D k=true∧(bP ops k).dst=some t:=⟨h,hd⟩
   rw [if_pos hd,if_pos hr]
  have hr:¬ (D k=true∧(bP ops k).dst=some t):=fun hh=>hd hh.2
  rw [if_neg hd,if_neg hr]; rfl
 have hr:¬ (D k=true∧(bP ops k).dst=some t):=fun hh=>h hh.1
 rw [if_neg h,if_neg hr]
theorem fi (D:Nat→Bool) (k b:Nat):aA (tD ops I s L D (k + 1)).H b=if D k=true∧(I k).c.mD b=true∧b < s.H.length + L then wv (I k) b else aA (tD ops I s L D k).H b:=by
 simp only [tD]
 by_cases h:D k=true
 ·rw [if_pos h,St.fD]
  simp only
  rw [rH,k8]
  by_cases hd:(I k).c.mD b=true∧b < s.H.length + L
  ·rw [if_pos hd,if_pos ⟨h,hd⟩]
  rw [if_neg hd,if_neg (fun hh=>hd hh.2)]
 rw [if_neg h,if_neg (fun hh=>h hh.1)]
theorem nI (D : Nat → Bool) (t : Nat) : ∀ k n, k ≤ n → (∀ i, k ≤ i → i < n → D i = true → (bP ops i).dst ≠ some t) → (tD ops I s L D n).get t = (tD ops I s L D k).get t := by
  intro k n hkn h
  induction n with
  | zero => obtain rfl : k = 0 := by omega
            rfl
  | succ n ih =>
    by_cases hk : k = n + 1
    · rw [hk]
    · rw [iU, if_neg (fun hh => h n (by omega) (by omega) hh.1 hh.2)]
      exact ih (by omega) fun i h1 h2 => h i h1 (by omega)
theorem me (D : Nat → Bool) (b : Nat) : ∀ k n, k ≤ n → (∀ i, k ≤ i → i < n → D i = true → (I i).c.mD b = false) → aA (tD ops I s L D n).H b = aA (tD ops I s L D k).H b := by
  intro k n hkn h
  induction n with
  | zero => obtain rfl : k = 0 := by omega
            rfl
  | succ n ih =>
    by_cases hk : k = n + 1
    · rw [hk]
    · rw [fi, if_neg (fun hh => by have := h n (by omega) (by omega) hh.1; rw [this] at hh; simp at hh)]
      exact ih (by omega) fun i h1 h2 => h i h1 (by omega)
theorem jN (D D' : Nat→Bool) (t:Nat):∀ k,(∀ i,i < k→(bP ops i).dst=some t→D i=D' i)→(tD ops I s L D k).get t=(tD ops I s L D' k).get t:=by
 intro k h
 induction k with
 | zero=>rfl
 | succ k ih =>
  rw [iU,iU,ih fun i hi=>h i (by omega)]
  by_cases hd:(bP ops k).dst=some t
  ·rw [h k (by omega) hd]
  rw [if_neg (fun hh=>hd hh.2),if_neg (fun hh=>hd hh.2)]
theorem iV (D D' : Nat→Bool) (b:Nat):∀ k,(∀ i,i < k→(I i).c.mD b=true→D i=D' i)→aA (tD ops I s L D k).H b=aA (tD ops I s L D' k).H b:=by
 intro k h
 induction k with
 | zero=>rfl
 | succ k ih =>
  rw [fi,fi,ih fun i hi=>h i (by omega)]
  by_cases hd:(I k).c.mD b=true
  ·rw [h k (by omega) hd]
  rw [if_neg (fun hh=>hd hh.2.1),if_neg (fun hh=>hd hh.2.1)]
def Fits (I:Nat→I2) (s:St) (ops:Array Oper) (n:Nat):Prop:=∀ k,k < n→match (I k).c with
 | .ld j=>j < (cS ops I s k).H.length
 | .st j=>j < (cS ops I s k).H.length
 | .nw j=>j=(cS ops I s k).H.length
 | .ap i j=>i < (cS ops I s k).H.length∧j=(cS ops I s k).H.length
 | .ms l=>∀ p∈l,p.1 < (cS ops I s k).H.length
 | .f=>True
theorem Bt (x:I2) (H:az):H.length≤(lu x H).length:=by
 unfold lu; split<;>simp [aB,cM]
theorem cL : ∀ {k n : Nat}, k ≤ n → (cS ops I s k).H.length ≤ (cS ops I s n).H.length := by
  intro k n h
  induction n with
  | zero => obtain rfl : k = 0 := by omega
            exact Nat.le_refl _
  | succ n ih =>
    by_cases hk : k = n + 1
    · rw [hk]; exact Nat.le_refl _
    · refine Nat.le_trans (ih (by omega)) ?_
      simp only [cS]
      rw [St.fD]
      exact Bt _ _
theorem gJ:∀ {H:az} {j:Nat},H.length≤j→aA H j = .dead
 | [],j,_=>by cases j<;>rfl
 | x :: r,0,h=>by simp at h
 | x :: r,j + 1,h=>gJ (H:=r) (by simpa using h)
theorem Ga {n:Nat} (hf:Fits I s ops n) (hL:(cS ops I s n).H.length=s.H.length + L):∀ k,k≤n→(∀ t,(tD ops I s L (fun _=>true) k).get t=(cS ops I s k).get t)∧∀ b,aA (tD ops I s L (fun _=>true) k).H b=aA (cS ops I s k).H b:=by
 intro k
 induction k with
 | zero =>
  intro _
  refine ⟨fun t=>rfl,fun b=>?_⟩
  simp only [tD,cS]
  by_cases hb:b < s.H.length
  ·rw [bX hb]
  rw [bc (by omega),lS,gJ (by omega)]
 | succ k ih =>
  intro hk
  obtain ⟨ih1,ih2⟩:=ih (by omega)
  have hle:=cL (ops:=ops) (I:=I) (s:=s) (show k + 1≤n from hk)
  have hlen:(lu (I k) (cS ops I s k).H).length≤s.H.length + L:=by
   rw [← hL]
   refine Nat.le_trans ?_ hle
   simp only [cS]; rw [St.fD]; exact Nat.le_refl _
  refine ⟨fun t=>?_,fun b=>?_⟩
  ·rw [iU]
   simp only [cS]
   rw [dB,ih1]
   by_cases hd:(bP ops k).dst=some t
   ·rw [if_pos ⟨trivial,hd⟩,if_pos hd]
   rw [if_neg (fun hh=>hd hh.2),if_neg hd]; rfl
  rw [fi,ih2]
  simp only [cS]
  rw [St.fD]
  simp only
  have hfk:=hf k (by omega)
  unfold lu at hlen ⊢
  unfold wv
  cases hc:(I k).c with
  | f=>simp [fK.mD]
  | ld j=>simp [fK.mD]
  | ms l =>
   rw [hc] at hfk
   have hjj:=cL (ops:=ops) (I:=I) (s:=s) (show k≤n by omega)
   simp only [fK.mD,true_and]
   rw [gk]
   by_cases hb:(l.any fun p=>p.1 == b)=true
   ·obtain ⟨p,hp,e⟩:=List.any_eq_true.1 hb
    have e:p.1=b:=by simpa using e
    have:=hfk p hp
    rw [if_pos ⟨hb,by omega⟩,if_pos ⟨hb,by omega⟩]
   rw [if_neg (fun hh=>hb hh.1),if_neg (fun hh=>hb hh.1)]
  | st j =>
   rw [hc] at hfk
   have hjj:=cL (ops:=ops) (I:=I) (s:=s) (show k≤n by omega)
   simp only [fK.mD,beq_iff_eq,true_and]
   rw [bO]
   by_cases hb:b=j
   ·subst hb
    rw [if_pos ⟨rfl,by omega⟩,if_pos ⟨rfl,hfk⟩]
   rw [if_neg (fun hh=>hb hh.1.symm),if_neg (fun hh=>hb hh.1)]
  | nw j =>
   rw [hc] at hfk hlen
   simp only [List.length_append,List.length_singleton] at hlen
   simp only [fK.mD,beq_iff_eq,true_and]
   by_cases hb:b=j
   ·subst hb
    rw [if_pos ⟨rfl,by omega⟩,bc (by omega),hfk,Nat.sub_self]; rfl
   rw [if_neg (fun hh=>hb hh.1.symm)]
   by_cases hlt:b < (cS ops I s k).H.length
   ·rw [bX hlt]
   rw [gJ (by omega),gJ (by simp; omega)]
  | ap i j =>
   rw [hc] at hfk hlen
   obtain ⟨hf1,hf2⟩:=hfk
   simp only [List.length_append,List.length_singleton,aB] at hlen
   have hjj:=cL (ops:=ops) (I:=I) (s:=s) (show k≤n by omega)
   simp only [fK.mD,Bool.or_eq_true,beq_iff_eq,true_and]
   by_cases hb:b=j
   ·subst hb
    rw [if_pos ⟨.inr rfl,by omega⟩,if_pos rfl,bc (by rw [aB]; omega),aB,hf2,Nat.sub_self]; rfl
   by_cases hb2:b=i
   ·subst hb2
    rw [if_pos ⟨.inl rfl,by omega⟩,if_neg (Ne.symm hb),bX (by rw [aB]; exact hf1),bO,if_pos ⟨rfl,hf1⟩]
   rw [if_neg (fun hh=>by rcases hh.1 with e | e; exact hb2 e.symm; exact hb e.symm)]
   by_cases hlt:b < (cS ops I s k).H.length
   ·rw [bX (by rw [aB]; exact hlt),bO,if_neg (fun hh=>hb2 hh.1)]
   rw [gJ (by omega),gJ (by simp [aB]; omega)]
def jE (ops:Array Oper) (I:Nat→I2) (i j:Nat):Bool:=(bP ops i).apart ops (bP ops j) && !nU (I i).c (I j).c
def ED (κ:Nat):aH→Bool
 | .own c=>c.all (HQ κ)
 | _=>true
def cf:aH→Bool
 | .bf _ _=>false
 | _=>true
theorem fB {b:aH} (h:cf b=true) (i j:Nat):b ≠ .bf i j:=by intro e; subst e; cases h
def I2.na (x:I2):Bool:=
 match x.c with
 | .ms _=>true
 | _=>cf x.b
def gP (ops : Array Oper) (xs : List I2) : Bool :=
  (List.range ops.size).all fun j =>
    ((bP ops j).after.toList.all fun e => !Region.binds .any e || e.on < j) &&
    ((List.range j).all fun i => jE ops (fun i => xs.getD i default) i j || ((bf ops).getD j 0).testBit i) &&
    (match (xs.getD j default).c.mk with
     | some κ => (List.range ops.size).all fun i => i == j || ((bf ops).getD i 0).testBit j || (HQ κ (xs.getD i default).av && ((xs.getD i default).pu || (xs.getD i default).pW.all (ED κ)))
     | none => true) && (xs.getD j default).na
theorem sr {xs:List I2} (h:gP ops xs=true):(∀ j o,ops[j]? = some o→∀ e∈o.after.toList,Region.binds .any e=true→e.on < j) ∧
  (∀ i j,i < j→j < ops.size→jE ops (fun i=>xs.getD i default) i j=false→((bf ops).getD j 0).testBit i=true) ∧
  (∀ j κ,j < ops.size→(xs.getD j default).c.mk=some κ→∀ i,i < ops.size→i ≠ j→((bf ops).getD i 0).testBit j=false→bB κ (xs.getD i default).av∧((xs.getD i default).pu=false→∀ c,aH.own c∈(xs.getD i default).pW→∀ (q:Nat) (h:q < c.length),bB κ c[q])) ∧
  (∀ j,j < ops.size→(xs.getD j default).na=true):=by
 unfold gP at h
 rw [List.all_eq_true] at h
 refine ⟨?_,?_,?_,?_⟩
 rotate_left 3
 ·intro j hj
  have:=h j (by simpa using hj)
  rw [Bool.and_eq_true] at this
  exact this.2
 ·intro j o ho e he hb
  have hj:=(Array.getElem?_eq_some_iff.1 ho).1
  have:=h j (by simpa using hj)
  rw [Bool.and_eq_true,Bool.and_eq_true,Bool.and_eq_true] at this
  have h1:=(List.all_eq_true.1 this.1.1.1) e (by rw [cN ho]; exact he)
  rw [hb] at h1
  simpa using h1
 ·intro i j hij hj ha
  have:=h j (by simpa using hj)
  rw [Bool.and_eq_true,Bool.and_eq_true,Bool.and_eq_true] at this
  have h1:=(List.all_eq_true.1 this.1.1.2) i (by simpa using hij)
  rw [ha,Bool.false_or] at h1
  exact h1
 intro j κ hj hc i hi hij hb
 have:=h j (by simpa using hj)
 rw [Bool.and_eq_true,Bool.and_eq_true,Bool.and_eq_true] at this
 have h1:=this.1.2
 rw [hc] at h1
 have h2:=(List.all_eq_true.1 h1) i (by simpa using hi)
 rw [hb] at h2
 have hij' : (i == j)=false:=by simpa using hij
 rw [hij',Bool.false_or,Bool.false_or,Bool.and_eq_true] at h2
 refine ⟨uF h2.1,fun hpu c hc' q hq=>?_⟩
 have h3:=h2.2
 rw [hpu,Bool.false_or] at h3
 exact uF ((List.all_eq_true.1 ((List.all_eq_true.1 h3) _ hc')) _ (List.getElem_mem hq))
end
open Go.RowKit
theorem nL:∀ {H:az} {k:Nat} {b:aH},k < H.length→aA H k=b→H[k]? = some b
 | x :: r,0,b,_,h=>by simp only [aA] at h; simp [h]
 | x :: r,k + 1,b,hk,h=>by simpa using nL (H:=r) (by simpa using hk) h
 | [],k,b,hk,_=>by simp at hk
theorem jJ:∀ {H:az} {k:Nat} {b:aH},H[k]? = some b→aA H k=b
 | x :: r,0,b,h=>by simpa [aA] using h
 | x :: r,k + 1,b,h=>jJ (H:=r) (by simpa using h)
 | [],k,b,h=>by simp at h
section
variable {P:Program} {ops:Array Oper}
theorem uA {Q:Exit→Act→World→Prop} {C:Ctx} {ds:List Deferred} {s s' : St} {xs:List I2} (hok:gP ops xs=true) (hrun:uB P ops ops.toList xs s s') {m:Map} {a:Act} {w:World} (R:Rel C m s a.tmps w) (hd:a.defers=ds)
  (hQ:∀ m' (a' : Act) w',Rel C m' s' a'.tmps w'→a'.defers=ds→Q .normal a' w'):lM P .any ops Q ops.size (Array.replicate ops.size false) a w:=by
 obtain ⟨hedge,hconf,hnr,hna⟩:=sr hok
 obtain ⟨I,hI⟩:∃ I:Nat→I2,I=fun i=>xs.getD i default:=⟨_,rfl⟩
 rw [← hI] at hconf
 have hna0:∀ j,j < ops.size→(I j).na=true:=by rw [hI]; exact hna
 have hnr0:∀ j κ,j < ops.size→(I j).c.mk=some κ→∀ i,i < ops.size→i ≠ j→((bf ops).getD i 0).testBit j=false→bB κ (I i).av∧((I i).pu=false→∀ c,aH.own c∈(I i).pW→∀ (q:Nat) (h:q < c.length),bB κ c[q]):=by
  rw [hI]; exact hnr
 obtain ⟨hfact,rfl⟩:=wS (P:=P) (ops:=ops) (I:=I) (s:=s) (s':=s') ops.toList xs 0 (fun i=>by simp) (fun i x h=>by rw [hI]; simp [List.getD,h]) (by simp) hrun
 have hfact:∀ i o,ops[i]? = some o→E6 P ops I s i o:=fun i o=>hfact i o (Nat.zero_le _)
 have hna:∀ j,j < ops.size→∀ i k,aH.bf i k ∉ (I j).pW:=by
  intro j hj i k hm
  have h0:=hna0 j hj
  obtain ⟨_,_,hh⟩:=hfact j ops[j] (Array.getElem?_eq_getElem hj)
  unfold I2.pW at hm
  unfold I2.na at h0
  rcases hh with ⟨_,e⟩ | ⟨_,h⟩
  ·rw [e] at hm; simp at hm
  unfold uy at h
  split at hm
  ·rename_i l hc
   rw [hc] at h
   obtain ⟨p,hp,e⟩:=List.mem_map.1 hm
   exact h.1.2 p hp i k e
  split at h0
  ·rename_i hneg _ _ hc2
   exact absurd hc2 (hneg _)
  rw [List.mem_singleton] at hm
  exact fB h0 i k hm.symm
 have hnr:∀ j κ,j < ops.size→(I j).c.mk=some κ→∀ i,i < ops.size→i ≠ j→((bf ops).getD i 0).testBit j=false→bB κ (I i).av∧∀ c,aH.own c∈(I i).pW→∀ (q:Nat) (h:q < c.length),bB κ c[q]:=by
  intro j κ hj hc i hi hij hb
  obtain ⟨g1,g2⟩:=hnr0 j κ hj hc i hi hij hb
  refine ⟨g1,fun c hc' q hq=>?_⟩
  cases hpu:(I i).pu with
  | false=>exact g2 hpu c hc' q hq
  | true=>exact (hfact i ops[i] (Array.getElem?_eq_getElem hi)).pu hpu c hc' q hq κ
 have hfits:Fits I s ops ops.size:=by
  intro k hk
  obtain ⟨_,_,hh⟩:=hfact k ops[k] (Array.getElem?_eq_getElem hk)
  rcases hh with ⟨_,e⟩ | ⟨_,h⟩
  ·rw [e]; trivial
  unfold uy at h
  cases hc:(I k).c with
  | f=>trivial
  | ld j=>rw [hc] at h; exact h.1
  | ms l=>rw [hc] at h; exact h.1.1
  | st j=>rw [hc] at h; exact h.1
  | nw j=>rw [hc] at h; exact h.1
  | ap i j=>rw [hc] at h; exact h.1
 obtain ⟨L,hL⟩:∃ L,(cS ops I s ops.size).H.length=s.H.length + L:=⟨(cS ops I s ops.size).H.length - s.H.length,by
  have:=cL (ops:=ops) (I:=I) (s:=s) (Nat.zero_le ops.size)
  simp only [cS] at this; omega⟩
 have hall:=Ga hfits hL
 have hκ0:∀ j κ,j < ops.size→(I j).c.mk=some κ→s.H.length≤κ∧κ < s.H.length + L:=by
  intro j κ hj hc
  have h1:=hfits j hj
  have h2:=cL (ops:=ops) (I:=I) (s:=s) (Nat.zero_le j)
  have h3:=cL (ops:=ops) (I:=I) (s:=s) (show j + 1≤ops.size from hj)
  simp only [cS] at h2
  cases hcc:(I j).c with
  | nw k =>
   rw [hcc] at h1 hc
   simp only [fK.mk,Option.some.injEq] at hc
   simp only at h1
   have h4:(cS ops I s (j + 1)).H.length=(cS ops I s j).H.length + 1:=by
    simp only [cS]; rw [St.fD]; simp only [lu,hcc]; simp
   omega
  | ap q k =>
   rw [hcc] at h1 hc
   simp only [fK.mk,Option.some.injEq] at hc
   simp only at h1
   have h4:(cS ops I s (j + 1)).H.length=(cS ops I s j).H.length + 1:=by
    simp only [cS]; rw [St.fD]; simp only [lu,hcc]; simp [aB]
   omega
  | f=>rw [hcc] at hc; simp [fK.mk] at hc
  | ld _=>rw [hcc] at hc; simp [fK.mk] at hc
  | st _=>rw [hcc] at hc; simp [fK.mk] at hc
  | ms _=>rw [hcc] at hc; simp [fK.mk] at hc
 have hs0:∀ κ,s.H.length≤κ→(∀ t,bB κ (s.get t))∧(∀ (j:Nat) (c:List AV),s.H[j]? = some (aH.own c)→∀ (i:Nat) (h:i < c.length),bB κ c[i])∧∀ (b i j:Nat),s.H[b]? = some (aH.bf i j)→j ≠ κ:=by
  intro κ hκ
  refine ⟨fun t=>(R.slot t).uw hκ,fun j c hc i hi=>?_,fun b i j hb e=>by have:=(R.mp.2.2.1 b i j hb).1; omega⟩
  rcases R.blk j c hc with ⟨b1,_⟩ | ⟨l2,cur2,e2,_,_,_,_,_,_,b7⟩
  ·subst b1; simp at hi
  exact (b7 i hi).uw hκ
 have key:∀ (fuel:Nat) (listed:Array Bool) (m:Map) (a:Act) (w:World),listed.size=ops.size→(List.range ops.size).countP (fun i=>!listed.getD i true)=fuel →
   (∀ j o,listed.getD j false=true→ops[j]? = some o→∀ e∈o.after.toList,Region.binds .any e=true→listed.getD e.on false=true) →
   Rel C m (tD ops I s L (fun i=>listed.getD i false) ops.size) a.tmps w→a.defers=ds→lM P .any ops Q fuel listed a w:=by
  intro fuel
  induction fuel with
  | zero =>
   intro listed m a w hsz hcnt hcl R hd
   have hal:∀ i,i < ops.size→listed.getD i true=true:=by
    intro i hi
    have:=List.countP_eq_zero.1 hcnt i (by simpa using hi)
    simpa using this
   have hal' : ∀ i,i < ops.size→listed.getD i false=true:=by
    intro i hi
    have:=hal i hi
    simp [Array.getD_eq_getD_getElem?,Array.getElem?_eq_getElem (show i < listed.size by omega)] at this ⊢
    exact this
   obtain ⟨a1,a2⟩:=hall ops.size (Nat.le_refl _)
   refine ⟨?_,hQ m a w (R.congr (fun t=>?_) ?_ ?_) hd⟩
   ·unfold Region.ready
    rw [List.filter_eq_nil_iff]
    intro i hi
    have:=hal i (by simpa using hi)
    simp [this]
   ·rw [← a1]
    exact (jN _ _ t _ fun i hi _=>(hal' i hi)).symm
   ·refine iJ (by rw [hL,k8]) fun b=>?_
    rw [← a2]
    exact (iV _ _ b _ fun i hi _=>(hal' i hi)).symm
   rw [wb,CI]
  | succ fuel ih =>
   intro listed m a w hsz hcnt hcl R hd
   refine ⟨fun hnil=>?_,fun j hj=>?_⟩
   ·
    exfalso
    have hex:∃ i,i < ops.size∧listed.getD i true=false:=by
     have:0 < (List.range ops.size).countP (fun i=>!listed.getD i true):=by omega
     obtain ⟨i,hi,h⟩:=List.countP_pos_iff.1 this
     exact ⟨i,by simpa using hi,by simpa using h⟩
    have hmin:∃ i,i < ops.size∧listed.getD i true=false∧∀ k,k < i→listed.getD k true=true:=by
     obtain ⟨i,hi,h⟩:=hex
     induction i using Nat.strongRecOn with
     | _ i ihh =>
      by_cases hall:∀ k,k < i→listed.getD k true=true
      ·exact ⟨i,hi,h,hall⟩
      simp only [Classical.not_forall] at hall
      obtain ⟨k,hk,hkn⟩:=hall
      exact ihh k hk (by omega) (by simpa using hkn)
    obtain ⟨i,hi,hli,hbelow⟩:=hmin
    have hmem:i∈Region.ready .any ops listed:=by
     unfold Region.ready
     rw [List.mem_filter]
     refine ⟨by simpa using hi,?_⟩
     rw [hli,Array.getElem?_eq_getElem hi]
     simp only [Bool.not_false,Bool.true_and,Option.map_some,Option.getD_some]
     rw [Array.all_eq_true_iff_forall_mem]
     intro e he
     by_cases hb:Region.binds .any e=true
     ·have hlt:=hedge i ops[i] (Array.getElem?_eq_getElem hi) e (by simpa using he) hb
      have:=hbelow e.on hlt
      have hlt' : e.on < listed.size:=by omega
      simp [Array.getD_eq_getD_getElem?,Array.getElem?_eq_getElem hlt'] at this ⊢
      simp [this]
     simp [hb]
    rw [hnil] at hmem
    simp at hmem
   unfold Region.ready at hj
   rw [List.mem_filter] at hj
   obtain ⟨hjlt,hj⟩:=hj
   have hjlt:j < ops.size:=by simpa using hjlt
   have hoj:ops[j]? = some ops[j]:=Array.getElem?_eq_getElem hjlt
   generalize ops[j]=o at hoj
   rw [hoj] at hj
   simp only [Option.map_some,Option.getD_some,Bool.and_eq_true,Bool.not_eq_eq_eq_not,Bool.not_true] at hj
   obtain ⟨hnl,hal⟩:=hj
   have hjls:j < listed.size:=by omega
   have hnl' : listed.getD j false=false:=by
    simp [Array.getD_eq_getD_getElem?,Array.getElem?_eq_getElem hjls] at hnl ⊢
    exact hnl
   have hpre:∀ e∈o.after.toList,Region.binds .any e=true→listed.getD e.on false=true:=by
    intro e he hb
    have:=(Array.all_eq_true_iff_forall_mem.1 hal) e (by simpa using he)
    rw [hb] at this
    simpa using this
   have hanc:∀ i,((bf ops).getD j 0).testBit i=true→listed.getD i false=true:=
    tL (D:=fun i=>listed.getD i false=true) hcl j j o (Nat.le_refl _) hoj hpre
   have hanc' : ∀ i,listed.getD i false=true→∀ oi,ops[i]? = some oi→∀ k,((bf ops).getD i 0).testBit k=true→listed.getD k false=true:=
    fun i hi oi hoi=>tL (D:=fun i=>listed.getD i false=true) hcl i i oi (Nat.le_refl _) hoi (hcl i oi hi hoi)
   have hod:bP ops j=o:=cN hoj
   have low:∀ i,i < j→jE ops I i j=false→listed.getD i false=true:=fun i hi ha=>hanc i (hconf i j hi hjlt ha)
   have high:∀ i,j < i→i < ops.size→listed.getD i false=true→jE ops I j i=true:=by
    intro i hi hlt hli
    have hoi:ops[i]? = some ops[i]:=Array.getElem?_eq_getElem hlt
    by_cases ha:jE ops I j i=true
    ·exact ha
    have:=hanc' i hli ops[i] hoi j (hconf j i hi hlt (by simpa using ha))
    rw [this] at hnl'; cases hnl'
   have ap1:∀ {i k:Nat},jE ops I i k=true→(bP ops i).apart ops (bP ops k)=true∧nU (I i).c (I k).c=false:=by
    intro i k h
    unfold jE at h
    simpa using h
   have agree:∀ t,t∈o.looksAt ops→(tD ops I s L (fun i=>listed.getD i false) ops.size).get t=(cS ops I s j).get t:=by
    intro t ht
    rw [← (hall j (by omega)).1,nI _ t j ops.size (by omega) (fun i h1 h2 h3 h4=>?_)]
    ·refine jN _ _ t j fun i hi hdi=>?_
     rw [low i hi ?_]
     rw [Bool.eq_false_iff]
     intro hap
     have:=(ap1 hap).1
     rw [hod] at this
     exact (Oper.apart_spec this).1 t hdi ht
    by_cases hij:i=j
    ·subst hij; rw [hnl'] at h3; cases h3
    have:=(ap1 (high i (by omega) h2 h3)).1
    rw [hod] at this
    exact (Oper.apart_spec this).2.2 t h4 ht
   have agreeH:∀ b,(I j).c.n9 b=true→aA (tD ops I s L (fun i=>listed.getD i false) ops.size).H b=aA (cS ops I s j).H b:=by
    intro b hb
    rw [← (hall j (by omega)).2,me _ b j ops.size (by omega) (fun i h1 h2 h3=>?_)]
    ·refine iV _ _ b j fun i hi hwi=>?_
     rw [low i hi ?_]
     rw [Bool.eq_false_iff]
     intro hap
     exact (lb (ap1 hap).2 b).2 ⟨hwi,hb⟩
    by_cases hij:i=j
    ·subst hij; rw [hnl'] at h3; cases h3
    rw [Bool.eq_false_iff]
    intro hw
    exact (lb (ap1 (high i (by omega) h2 h3)).2 b).1 ⟨hb,hw⟩
   have hlist:∀ i,(listed.setIfInBounds j true).getD i false=if i=j then true else listed.getD i false:=by
    intro i
    simp only [Array.getD_eq_getD_getElem?]
    by_cases hij:i=j
    ·subst hij; rw [Array.getElem?_setIfInBounds_self_of_lt hjls,if_pos rfl]; rfl
    rw [Array.getElem?_setIfInBounds_ne (Ne.symm hij),if_neg hij]
   have insertGet:∀ t,(tD ops I s L (fun i=>(listed.setIfInBounds j true).getD i false) ops.size).get t=if o.dst=some t then (I j).av else (tD ops I s L (fun i=>listed.getD i false) ops.size).get t:=by
    intro t
    have base:∀ k,k≤j→(tD ops I s L (fun i=>(listed.setIfInBounds j true).getD i false) k).get t=(tD ops I s L (fun i=>listed.getD i false) k).get t:=fun k hk =>
     jN _ _ t k fun i hi _=>by rw [hlist,if_neg (by omega)]
    have step:∀ n,j + 1≤n→n≤ops.size→(tD ops I s L (fun i=>(listed.setIfInBounds j true).getD i false) n).get t=if o.dst=some t then (I j).av else (tD ops I s L (fun i=>listed.getD i false) n).get t:=by
     intro n hn hns
     induction n with
     | zero=>omega
     | succ n ihn =>
      by_cases hnj:n=j
      ·subst hnj
       rw [iU,iU,hod,base n (Nat.le_refl _),hlist,if_pos rfl,hnl']
       by_cases hdt:o.dst=some t
       ·simp [hdt]
       simp [hdt]
      rw [iU,iU,ihn (by omega) (by omega),hlist,if_neg hnj]
      by_cases hln:listed.getD n false=true∧(bP ops n).dst=some t
      ·rw [if_pos hln,if_pos hln]
       have hap:=(ap1 (high n (by omega) (by omega) hln.1)).1
       rw [hod] at hap
       by_cases hdt:o.dst=some t
       ·exact absurd hln.2 ((Oper.apart_spec hap).2.1 t hdt)
       rw [if_neg hdt]
      rw [if_neg hln,if_neg hln]
    exact step ops.size (by omega) (Nat.le_refl _)
   have insertH:∀ b,aA (tD ops I s L (fun i=>(listed.setIfInBounds j true).getD i false) ops.size).H b=if (I j).c.mD b=true∧b < s.H.length + L then wv (I j) b else aA (tD ops I s L (fun i=>listed.getD i false) ops.size).H b:=by
    intro b
    have base:∀ k,k≤j→aA (tD ops I s L (fun i=>(listed.setIfInBounds j true).getD i false) k).H b=aA (tD ops I s L (fun i=>listed.getD i false) k).H b:=fun k hk =>
     iV _ _ b k fun i hi _=>by rw [hlist,if_neg (by omega)]
    have step:∀ n,j + 1≤n→n≤ops.size→aA (tD ops I s L (fun i=>(listed.setIfInBounds j true).getD i false) n).H b=if (I j).c.mD b=true∧b < s.H.length + L then wv (I j) b else aA (tD ops I s L (fun i=>listed.getD i false) n).H b:=by
     intro n hn hns
     induction n with
     | zero=>omega
     | succ n ihn =>
      by_cases hnj:n=j
      ·subst hnj
       rw [fi,fi,base n (Nat.le_refl _),hlist,if_pos rfl,hnl']
       by_cases hdt:(I n).c.mD b=true∧b < s.H.length + L
       ·rw [if_pos ⟨rfl,hdt⟩,if_pos hdt]
       rw [if_neg (fun hh=>hdt hh.2),if_neg hdt,if_neg (fun hh=>by cases hh.1)]
      rw [fi,fi,ihn (by omega) (by omega),hlist,if_neg hnj]
      by_cases hln:listed.getD n false=true∧(I n).c.mD b=true∧b < s.H.length + L
      ·rw [if_pos hln,if_pos hln]
       have hap:=(ap1 (high n (by omega) (by omega) hln.1)).2
       by_cases hdt:(I j).c.mD b=true
       ·exact absurd ⟨hdt,fK.sw hln.2.1⟩ (lb hap b).2
       rw [if_neg (fun hh=>hdt hh.1)]
      rw [if_neg hln,if_neg hln]
    exact step ops.size (by omega) (Nat.le_refl _)
   have hcnt' : (List.range ops.size).countP (fun i=>!(listed.setIfInBounds j true).getD i true)=fuel:=by
    have hsplit:∀ (l:List Nat),l.Nodup→j∈l→l.countP (fun i=>!listed.getD i true)=l.countP (fun i=>!(listed.setIfInBounds j true).getD i true) + 1:=by
     intro l
     induction l with
     | nil=>intro _ h; simp at h
     | cons x r ihl =>
      intro hnd hmem
      have hx:∀ i,i ≠ j→(listed.setIfInBounds j true).getD i true=listed.getD i true:=by
       intro i hi
       simp only [Array.getD_eq_getD_getElem?]
       rw [Array.getElem?_setIfInBounds_ne (Ne.symm hi)]
      rw [List.nodup_cons] at hnd
      by_cases hxj:x=j
      ·subst hxj
       have e1:(listed.setIfInBounds x true).getD x true=true:=by
        simp only [Array.getD_eq_getD_getElem?]
        rw [Array.getElem?_setIfInBounds_self_of_lt hjls]; rfl
       rw [List.countP_cons,List.countP_cons,hnl,e1]
       have:r.countP (fun i=>!listed.getD i true)=r.countP (fun i=>!(listed.setIfInBounds x true).getD i true):=by
        apply List.countP_congr
        intro i hi
        rw [hx i (fun e=>hnd.1 (e ▸ hi))]
       simp only [this,Bool.not_false,Bool.not_true,if_true,Bool.false_eq_true,if_false,Nat.add_zero]
      rw [List.countP_cons,List.countP_cons,hx x hxj,ihl hnd.2 (by rcases List.mem_cons.1 hmem with h | h; exact absurd h.symm hxj; exact h)]
      omega
    have:=hsplit (List.range ops.size) List.nodup_range (by simpa using hjlt)
    omega
   have hcl' : ∀ i oi,(listed.setIfInBounds j true).getD i false=true→ops[i]? = some oi→∀ e∈oi.after.toList,Region.binds .any e=true→(listed.setIfInBounds j true).getD e.on false=true:=by
    intro i oi hi hoi e he hb
    rw [hlist] at hi ⊢
    by_cases hij:i=j
    ·subst hij
     rw [hoj] at hoi; cases hoi
     rw [hpre e he hb]; simp
    rw [if_neg hij] at hi
    rw [hcl i oi hi hoi e he hb]; simp
   have hTlen:(tD ops I s L (fun i=>listed.getD i false) ops.size).H.length=s.H.length + L:=k8 _ _
   have next:∀ (m' : Map) (a' : Act) (w' : World),(∃ s2:St,Rel C m' s2 a'.tmps w'∧(∀ t,s2.get t=if o.dst=some t then (I j).av else (tD ops I s L (fun i=>listed.getD i false) ops.size).get t) ∧
      (s2.H=nh (I j) (tD ops I s L (fun i=>listed.getD i false) ops.size).H)∧s2.n=s.n)→a'.defers=ds→lM P .any ops Q fuel (listed.setIfInBounds j true) a' w':=by
    rintro m' a' w' ⟨s2,R2,e1,e2,e3⟩ hd'
    refine ih _ m' a' w' (by simpa using hsz) hcnt' hcl' (R2.congr (fun t=>?_) ?_ ?_) hd'
    ·rw [insertGet,e1]
    ·rw [e2]
     refine iJ (by rw [k8,vB,hTlen]) fun b=>?_
     rw [insertH,rH,hTlen]
    rw [wb,e3]
   have hgd:∀ b,a8 ops (cS ops I s j) o=some b→a8 ops (tD ops I s L (fun i=>listed.getD i false) ops.size) o=some b:=by
    intro b h
    unfold a8 at h ⊢
    split at h
    ·exact h
    rename_i g want e
    split at h
    ·rename_i d hdd
     have:(tD ops I s L (fun i=>listed.getD i false) ops.size).get d=(cS ops I s j).get d:=agree d (by
      unfold Oper.looksAt
      rw [e]
      simp [hdd])
     rw [this]
     exact h
    cases h
   have hsn:(tD ops I s L (fun i=>listed.getD i false) ops.size).n=s.n:=wb _ _
   obtain ⟨_,fd,fh⟩:=hfact j o hoj
   unfold Hx
   rw [hoj]
   simp only
   rcases fh with ⟨hg,hIj⟩ | ⟨hg,hloc⟩
   ·rw [bW (P:=P) R (hgd _ hg)]
    simp only [Bool.false_eq_true,if_false]
    refine next m _ w ⟨_,R.put (fun t ht=>by rw [hsn]; exact fd t ht) (.p _ _ mu),fun t=>?_,?_,?_⟩ (by rw [put_defers]; exact hd)
    ·rw [dB,hIj]
    ·rw [St.fD,hIj]; rfl
    rw [St.jl,hsn]
   rw [bW (P:=P) R (hgd _ hg)]
   simp only [if_true]
   left
   have hag:dW o (cS ops I s j) (tD ops I s L (fun i=>listed.getD i false) ops.size):=by
    intro x hx
    cases x with
    | tmp t =>
     simp only [St.ev]
     refine agree t ?_
     unfold Oper.looksAt
     rw [List.mem_append]
     left
     rw [List.mem_filterMap]
     exact ⟨.tmp t,by simpa using hx,rfl⟩
    | _=>rfl
   have hn2:(tD ops I s L (fun i=>listed.getD i false) ops.size).n=(cS ops I s j).n:=by rw [wb,CI]
   have fin:bu P o (tD ops I s L (fun i=>listed.getD i false) ops.size) (I j).av (nh (I j) (tD ops I s L (fun i=>listed.getD i false) ops.size).H) →
     zu P o a w (lM P .any ops Q fuel (listed.setIfInBounds j true)) Q:=by
    intro hdo
    refine hdo C m a w _ Q R fun v m' w' R' hv=>?_
    refine next m' _ w' ⟨_,R'.put (fun t ht=>by simp only; rw [hsn]; exact fd t ht) hv,fun t=>?_,?_,?_⟩ (by rw [put_defers]; exact hd)
    ·rw [dB]; rfl
    ·rw [St.fD]
    rw [St.jl]; exact hsn
   have fresh:∀ k,(I j).c.mk=some k→(I j).c.n9 k=true→(cS ops I s j).H.length=k→(tD ops I s L (fun i=>listed.getD i false) ops.size).H[k]? = some .dead∧(∀ t,bB k ((tD ops I s L (fun i=>listed.getD i false) ops.size).get t))∧(∀ (b:Nat) (c:List AV),(tD ops I s L (fun i=>listed.getD i false) ops.size).H[b]? = some (aH.own c)→∀ (q:Nat) (h:q < c.length),bB k c[q])∧∀ (b i j' : Nat),(tD ops I s L (fun i=>listed.getD i false) ops.size).H[b]? = some (aH.bf i j')→j' ≠ k:=by
    intro k hc htch hlk
    obtain ⟨k1,k2⟩:=hκ0 j k hjlt hc
    have hD:∀ i,i < ops.size→listed.getD i false=true→i ≠ j∧((bf ops).getD i 0).testBit j=false:=by
     intro i hi hli
     refine ⟨fun e=>by (subst e; rw [hnl'] at hli; cases hli),?_⟩
     rw [Bool.eq_false_iff]
     intro hb
     have:=hanc' i hli ops[i] (Array.getElem?_eq_getElem hi) j hb
     rw [this] at hnl'; cases hnl'
    have hno:∀ n,n≤ops.size→(∀ t,bB k ((tD ops I s L (fun i=>listed.getD i false) n).get t))∧(∀ (b:Nat) (c:List AV),aA (tD ops I s L (fun i=>listed.getD i false) n).H b=aH.own c→∀ (q:Nat) (h:q < c.length),bB k c[q])∧∀ (b i j' : Nat),aA (tD ops I s L (fun i=>listed.getD i false) n).H b=aH.bf i j'→j' ≠ k:=by
     intro n
     induction n with
     | zero =>
      intro _
      refine ⟨(hs0 k k1).1,fun b c hb=>?_,fun b i j' hb=>?_⟩
      ·simp only [tD] at hb
       by_cases hlt:b < s.H.length
       ·rw [bX hlt] at hb
        exact (hs0 k k1).2.1 b c (bE hb)
       rw [bc (by omega),lS] at hb
       cases hb
      simp only [tD] at hb
      by_cases hlt:b < s.H.length
      ·rw [bX hlt] at hb
       exact (hs0 k k1).2.2 b i j' (cd hb (by simp))
      rw [bc (by omega),lS] at hb
      cases hb
     | succ n ihn =>
      intro hn
      obtain ⟨i1,i2,i3⟩:=ihn (by omega)
      refine ⟨fun t=>?_,fun b c hb=>?_,fun b i j' hb=>?_⟩
      ·rw [iU]
       by_cases hh:listed.getD n false=true∧(bP ops n).dst=some t
       ·rw [if_pos hh]
        obtain ⟨d1,d2⟩:=hD n (by omega) hh.1
        exact (hnr j k hjlt hc n (by omega) d1 d2).1
       rw [if_neg hh]; exact i1 t
      ·rw [fi] at hb
       by_cases hh:listed.getD n false=true∧(I n).c.mD b=true∧b < s.H.length + L
       ·rw [if_pos hh] at hb
        obtain ⟨d1,d2⟩:=hD n (by omega) hh.1
        refine (hnr j k hjlt hc n (by omega) d1 d2).2 c ?_
        rcases yL (I n) b with h1 | h1
        ·rw [hb] at h1; cases h1
        rw [hb] at h1; exact h1
       rw [if_neg hh] at hb; exact i2 b c hb
      rw [fi] at hb
      by_cases hh:listed.getD n false=true∧(I n).c.mD b=true∧b < s.H.length + L
      ·rw [if_pos hh] at hb
       rcases yL (I n) b with h1 | h1
       ·rw [hb] at h1; cases h1
       rw [hb] at h1; exact absurd h1 (hna n (by omega) i j')
      rw [if_neg hh] at hb; exact i3 b i j' hb
    obtain ⟨n1,n2,n3⟩:=hno ops.size (Nat.le_refl _)
    have hkl:k < (tD ops I s L (fun i=>listed.getD i false) ops.size).H.length:=by rw [hTlen]; exact k2
    have hdead:aA (tD ops I s L (fun i=>listed.getD i false) ops.size).H k = .dead:=by
     rw [agreeH k htch]
     exact gJ (by omega)
    exact ⟨nL hkl hdead,n1,fun b c hb=>n2 b c (jJ hb),fun b i j' hb=>n3 b i j' (jJ hb)⟩
   apply fin
   unfold uy at hloc
   unfold nh
   cases hc:(I j).c with
   | f=>rw [hc] at hloc; exact hloc _ hn2 hag
   | ld k=>rw [hc] at hloc; exact hloc.2 _ hn2 hag (agreeH k (by rw [hc]; simp [fK.n9]))
   | st k=>rw [hc] at hloc; exact hloc.2 _ hn2 hag (agreeH k (by rw [hc]; simp [fK.n9]))
   | ms l=>rw [hc] at hloc; exact hloc.2 _ hn2 hag fun p hp=>⟨by have h1:=hloc.1.1 p hp; have h2:=cL (ops:=ops) (I:=I) (s:=s) (show j≤ops.size by omega); rw [hTlen]; omega,agreeH p.1 (by rw [hc]; simp only [fK.n9]; exact List.any_eq_true.2 ⟨p,hp,by simp⟩)⟩
   | nw k =>
    rw [hc] at hloc
    obtain ⟨a1,a2,a3,a4⟩:=fresh k (by rw [hc]; rfl) (by rw [hc]; simp [fK.n9]) hloc.1.symm
    exact hloc.2 _ hn2 hag a1 a2 a3 a4
   | ap q k =>
    rw [hc] at hloc
    obtain ⟨a1,a2,a3,a4⟩:=fresh k (by rw [hc]; rfl) (by rw [hc]; simp [fK.n9]) hloc.1.2.symm
    exact hloc.2 _ hn2 hag (agreeH q (by rw [hc]; simp [fK.n9])) a1 a2 a3 a4
 refine key ops.size (Array.replicate ops.size false) m a w (by simp) ?_ ?_ ?_ hd
 ·have:∀ i∈List.range ops.size,(!(Array.replicate ops.size false).getD i true)=true:=by
   intro i hi
   have hi:i < ops.size:=by simpa using hi
   simp [Array.getD_eq_getD_getElem?,hi]
  rw [List.countP_eq_length.2 this]
  simp
 ·intro j o hj
  exfalso
  simp only [Array.getD_eq_getD_getElem?,Array.getElem?_replicate] at hj
  split at hj<;>simp at hj
 refine (R.pad L).congr (fun t=>?_) ?_ (wb _ _)
 ·refine nI _ t 0 ops.size (Nat.zero_le _) fun i _ hi h=>?_
  simp only [Array.getD_eq_getD_getElem?,Array.getElem?_replicate] at h
  split at h<;>simp at h
 refine iJ (by rw [k8]; simp) fun b=>?_
 refine me _ b 0 ops.size (Nat.zero_le _) fun i _ hi h=>?_
 simp only [Array.getD_eq_getD_getElem?,Array.getElem?_replicate] at h
 split at h<;>simp at h
end
section
variable {P:Program} {T:TypeId→Option TI}
def lz:List AV→Bool
 | []=>true
 | .p _ :: r=>lz r
 | _=>false
theorem oZ (H H2:az):∀ l:List AV,lz l=true→jz H2 l=jz H l
 | [],_=>rfl
 | x :: r,h=>by
  cases x with
  | p v =>
   have ih:=oZ H H2 r h
   simp only [jz,wm,ih]
  | _=>simp [lz] at h
def jP (s:St):Op→Option fK
 | .load _ x=>match s.ev x with | .ptr k _=>some (.ld k) | .p (.ptr _)=>some .f | _=>none
 | .store _ x _=>match s.ev x with | .ptr k _=>some (.st k) | _=>none
 | .alloc _=>some (.nw s.H.length)
 | .call { callee:=.builtin .append,args,.. }=>match args.toList.map s.ev with | [.sl k _ _,.p _]=>some (.ap k s.H.length) | _=>none
 | .lookup _ x _ _=>match s.ev x with | .mptr k=>some (.ld k) | _=>none
 | .makeFunc _ _ caps=>bif lz (caps.toList.map s.ev) then some .f else none
 | op=>bif jU op then none else some .f
def fI (c:fK) (H:az):aH:=
 match c with
 | .st k=>aA H k
 | .nw k=>aA H k
 | .ap _ k=>aA H k
 | _=>.dead
theorem vh (κ:Nat) (v:Value):bB κ (cv v):=by
 unfold cv; split<;>constructor
theorem tW {ti:TI} {H:az} {k lo len:Nat} {v:PV} {r:OV} (h:fm T ti H (.sl k lo len) (.p v)=some r) :
  ∃ (cc:List AV) (xs:List PV) (V:Prop),aA H k = .own cc∧∀ H2:az,aA H2 k = .own cc→fm T ti H2 (.sl k lo len) (.p v)=some ⟨V,.sl H2.length 0 (len + xs.length),aF H2 k .dead++[.own ((cc.drop lo).take len++xs.map .p)]⟩:=by
 unfold fm at h ⊢
 cases hk:ti.kind with
 | slice e =>
  rw [hk] at h
  simp only at h ⊢
  cases hte:T e with
  | none=>rw [hte] at h; cases h
  | some te =>
   rw [hte] at h
   simp only at h ⊢
   cases hg:aA H k with
   | dead=>rw [hg] at h; cases v<;>simp [cO] at h
   | mp _ _ _=>rw [hg] at h; cases v<;>simp [cO] at h
   | bf _ _=>rw [hg] at h; cases v<;>simp [cO] at h
   | lp _=>rw [hg] at h; cases v<;>simp [cO] at h
   | fro d=>rw [hg] at h; cases v<;>simp [cO] at h
   | own cc =>
    cases v with
    | list l=>exact ⟨cc,l,_,rfl,fun H2 h2=>by simp only [cO,h2,List.length_map]; rfl⟩
    | nn l=>exact ⟨cc,l,_,rfl,fun H2 h2=>by simp only [cO,h2,List.length_map]; rfl⟩
    | nil=>exact ⟨cc,[],_,rfl,fun H2 h2=>by simp only [cO,h2,List.length_nil,List.map_nil]; rfl⟩
    | _=>rw [hg] at h; simp [cO] at h
 | _=>rw [hk] at h; cases h
theorem vG {ti:TI} {ok:Bool} {H:az} {k:Nat} {y:AV} {r:OV} (h:gh T ti ok H (.mptr k) y=some r):k < H.length∧∀ H2:az,aA H2 k=aA H k→gh T ti ok H2 (.mptr k) y=some { r with H:=H2 }:=by
 unfold gh at h ⊢
 split at h
 ·split at h
  ·simp only at h
   split at h
   ·rename_i kk d v zp hg hz
    simp only [Option.some.injEq] at h
    subst h
    refine ⟨(List.getElem?_eq_some_iff.1 (cd hg (by simp))).1,fun H2 h2=>?_⟩
    simp_all
   cases h
  cases h
 cases h
theorem BQ (hT:∀ t ti,T t=some ti→bk P t=some ti) {o:Oper} {s:St} {r:OV} {c:fK} (hc:jP s o.op=some c) (h:cW T s o.op=some r) (hvc:r.vc) :
  uy P o s ⟨c,r.av,fI c r.H,false⟩∧r.H=lu ⟨c,r.av,fI c r.H,false⟩ s.H:=by
 have free:jU o.op=false→c = .f→uy P o s ⟨c,r.av,fI c r.H,false⟩∧r.H=lu ⟨c,r.av,fI c r.H,false⟩ s.H:=by
  rintro hf rfl
  refine ⟨?_,(jD hf h).1⟩
  intro s2 hn ha
  have h1:=(jD hf h).2 s2.H
  have:=mY (T:=T) (s:={ s with H:=s2.H }) (s2:=s2) (op:=o.op) (fun x hx=>by rw [ha x hx]; cases x<;>rfl) rfl
  rw [h1] at this
  exact (cY hT this hvc).wp
 generalize hop:o.op=op at *
 cases op with
 | makeFunc fn first caps =>
  simp only [jP] at hc
  cases hp:lz (caps.toList.map s.ev) with
  | false=>rw [hp] at hc; cases hc
  | true =>
   rw [hp] at hc
   simp only [cond_true,Option.some.injEq] at hc
   subst hc
   have hr:r.H=s.H:=by
    cases fn with
    | func f =>
     simp only [cW] at h
     cases hf:first.isEmpty<;>rw [hf] at h
     ·cases h
     exact nK h
    | _=>simp [cW] at h
   refine ⟨?_,hr⟩
   intro s2 hn ha
   have h2:cW T s2 o.op=some { r with H:=s2.H }:=by
    rw [hop]
    have hm:caps.toList.map s2.ev=caps.toList.map s.ev:=List.map_congr_left fun x hx=>ha x (by rw [hop]; simp only [Op.operands]; simp; right; simpa using hx)
    cases fn with
    | func f =>
     simp only [cW] at h ⊢
     cases hf:first.isEmpty<;>rw [hf] at h
     ·cases h
     simp only [cond_true] at h ⊢
     rw [hm]
     unfold e7 at h ⊢
     rw [oZ s.H s2.H _ hp]
     cases hcp:jz s.H (caps.toList.map s.ev) with
     | none=>rw [hcp] at h; cases h
     | some x=>rw [hcp] at h; obtain ⟨p1,l1⟩:=x; simp only [Option.some.injEq] at h ⊢; subst h; rfl
    | _=>simp [cW] at h
   exact (cY hT h2 hvc).wp
 | lookup t x y ok =>
  simp only [jP] at hc
  simp only [cW] at h
  cases hti:T t with
  | none=>rw [hti] at h; cases h
  | some ti =>
   rw [hti] at h
   simp only at h
   have hx:∀ s2:St,dW o s s2→s2.ev x=s.ev x:=fun s2 ha=>ha x (by rw [hop]; simp [Op.operands])
   have hy:∀ s2:St,dW o s s2→s2.ev y=s.ev y:=fun s2 ha=>ha y (by rw [hop]; simp [Op.operands])
   cases hev:s.ev x with
   | mptr k =>
    rw [hev] at hc h
    simp only [Option.some.injEq] at hc
    subst hc
    obtain ⟨hkl,hloc⟩:=vG h
    refine ⟨⟨hkl,fun s2 hn ha hH=>?_⟩,rS h⟩
    have h2:cW T s2 o.op=some { r with H:=s2.H }:=by
     rw [hop]
     simp only [cW,hti,hx s2 ha,hy s2 ha,hev]
     exact hloc s2.H hH
    exact (cY hT h2 hvc).wp
   | _=>rw [hev] at hc; cases hc
 | load t x =>
  simp only [jP] at hc
  simp only [cW] at h
  cases hti:T t with
  | none=>rw [hti] at h; cases h
  | some ti =>
   rw [hti] at h
   simp only at h
   have hx:∀ s2:St,dW o s s2→s2.ev x=s.ev x:=fun s2 ha=>ha x (by rw [hop]; simp [Op.operands])
   cases hev:s.ev x with
   | ptr k i =>
    rw [hev] at hc h
    simp only [Option.some.injEq] at hc
    subst hc
    have hkl:k < s.H.length:=by
     simp only [jm] at h
     cases hg:aA s.H k with
     | dead=>rw [hg] at h; cases h
     | mp _ _ _=>rw [hg] at h; cases h
     | bf _ _=>rw [hg] at h; cases h
     | lp _=>rw [hg] at h; cases h
     | own d=>exact (List.getElem?_eq_some_iff.1 (bE hg)).1
     | fro d=>exact (List.getElem?_eq_some_iff.1 (gC hg)).1
    refine ⟨⟨hkl,fun s2 hn ha hH=>?_⟩,tC h⟩
    have h2:cW T s2 o.op=some { r with H:=s2.H }:=by
     rw [hop]
     simp only [cW,hti,hx s2 ha,hev]
     simp only [jm] at h ⊢
     rw [hH]
     cases hg:aA s.H k with
     | dead=>rw [hg] at h; cases h
     | mp _ _ _=>rw [hg] at h; cases h
     | bf _ _=>rw [hg] at h; cases h
     | lp _=>rw [hg] at h; cases h
     | own d=>rw [hg] at h; cases hr:dA ti.kind<;>rw [hr] at h<;>simp only [cond_true,cond_false,Option.some.injEq] at h ⊢<;>subst h<;>rfl
     | fro d=>rw [hg] at h; cases hr:dA ti.kind<;>rw [hr] at h<;>simp only [cond_true,cond_false,Option.some.injEq] at h ⊢<;>subst h<;>rfl
    exact (cY hT h2 hvc).wp
   | p v =>
    rw [hev] at hc h
    cases v with
    | ptr d =>
     simp only [Option.some.injEq] at hc
     subst hc
     refine ⟨?_,tC h⟩
     intro s2 hn ha
     have h2:cW T s2 o.op=some { r with H:=s2.H }:=by
      rw [hop]
      simp only [cW,hti,hx s2 ha,hev]
      simp only [jm] at h ⊢
      cases hr:dA ti.kind<;>rw [hr] at h<;>simp only [cond_true,cond_false,Option.some.injEq] at h ⊢<;>subst h<;>rfl
     exact (cY hT h2 hvc).wp
    | _=>cases hc
   | _=>rw [hev] at hc; cases hc
 | store t x v =>
  simp only [jP] at hc
  simp only [cW] at h
  cases hti:T t with
  | none=>rw [hti] at h; cases h
  | some ti =>
   rw [hti] at h
   simp only at h
   have hx:∀ s2:St,dW o s s2→s2.ev x=s.ev x:=fun s2 ha=>ha x (by rw [hop]; simp [Op.operands])
   have hv:∀ s2:St,dW o s s2→s2.ev v=s.ev v:=fun s2 ha=>ha v (by rw [hop]; simp [Op.operands])
   cases hev:s.ev x with
   | ptr k i =>
    rw [hev] at hc h
    simp only [Option.some.injEq] at hc
    subst hc
    simp only [k9] at h
    cases hg:aA s.H k with
    | dead=>rw [hg] at h; cases h
    | mp _ _ _=>rw [hg] at h; cases h
    | bf _ _=>rw [hg] at h; cases h
    | lp _=>rw [hg] at h; cases h
    | fro d=>rw [hg] at h; cases h
    | own d =>
     rw [hg] at h
     simp only [Option.some.injEq] at h
     have hkl:k < s.H.length:=(List.getElem?_eq_some_iff.1 (bE hg)).1
     have hb:aA r.H k = .own (kh d i (s.ev v).cells):=by
      rw [← h]; simp only; rw [gy _ _ _ hkl]
     refine ⟨⟨hkl,fun s2 hn ha hH=>?_⟩,?_⟩
     ·have h2:cW T s2 o.op=some { r with H:=aF s2.H k (.own (kh d i (s.ev v).cells)) }:=by
       rw [hop]
       simp only [cW,hti,hx s2 ha,hv s2 ha,hev,k9,hH,hg]
       rw [← h]
      simp only [fI]
      rw [hb]
      exact (cY hT h2 hvc).wp
     simp only [lu,fI]
     rw [hb,← h]
   | p v=>rw [hev] at hc; cases hc
   | dead=>rw [hev] at hc; cases hc
   | sl _ _ _=>rw [hev] at hc; cases hc
   | agg _=>rw [hev] at hc; cases hc
   | tup _=>rw [hev] at hc; cases hc
   | cl _ _=>rw [hev] at hc; cases hc
   | itv _=>rw [hev] at hc; cases hc
   | sls _ _ _ _=>rw [hev] at hc; cases hc
   | mptr _=>rw [hev] at hc; cases hc
   | yv _ _ _=>rw [hev] at hc; cases hc
 | alloc t =>
  simp only [jP,Option.some.injEq] at hc
  subst hc
  simp only [cW] at h
  cases hti:T t with
  | none=>rw [hti] at h; cases h
  | some ti =>
   rw [hti] at h
   simp only [Option.some.injEq] at h
   have hb:aA r.H s.H.length = .own (ti.zero.map cv):=by
    rw [← h]; simp only [im]; rw [bc (Nat.le_refl _),Nat.sub_self]; rfl
   refine ⟨⟨rfl,fun s2 hn ha hd n1 n2 n3=>?_⟩,?_⟩
   ·simp only [fI]
    rw [hb]
    have hav:r.av = .ptr s.H.length 0:=by rw [← h]; rfl
    rw [hav]
    have hvc' : (im ti s2.H).vc:=by
     have:(im ti s.H).vc:=by rw [h]; exact hvc
     exact this
    refine uV.wp fun C m a w R=>?_
    obtain ⟨v,w',m',hy,R',hv⟩:=nW hT R (o:=o) hop hti hvc'
    obtain ⟨g1,g2,_⟩:=Rel.move R (b:=.own (ti.zero.map cv)) R' hd n3 (fun _ _ h=>by cases h) n1 n2 fun c hc i hi=>by
     cases hc
     rw [List.getElem_map]
     exact ⟨vh _ _,vh _ _⟩
    exact ⟨v,w',_,hy,g1,g2 0 v hv⟩
   simp only [lu,fI]
   rw [hb,← h]; rfl
 | call c' =>
  obtain ⟨callee,args,ts⟩:=c'
  have other:jP s (.call ⟨callee,args,ts⟩)=(bif jU (.call ⟨callee,args,ts⟩) then none else some .f)→uy P o s ⟨c,r.av,fI c r.H,false⟩∧r.H=lu ⟨c,r.av,fI c r.H,false⟩ s.H:=by
   intro e
   rw [e] at hc
   cases hf:jU (.call ⟨callee,args,ts⟩) with
   | true=>rw [hf] at hc; cases hc
   | false=>rw [hf] at hc; exact free hf (by simpa using hc.symm)
  cases callee with
  | builtin b =>
   cases b with
   | append =>
    simp only [jP] at hc
    split at hc<;>simp only [Option.some.injEq,reduceCtorEq] at hc
    rename_i k lo len v hl
    subst hc
    have hev:∀ s2:St,dW o s s2→args.toList.map s2.ev=[.sl k lo len,.p v]:=by
     intro s2 ha
     rw [← hl]
     exact List.map_congr_left fun x hx=>ha x (by rw [hop]; simp [Op.operands,Call.operands]; simpa using hx)
    simp only [cW] at h
    rw [hl] at h
    obtain ⟨t,ti,hts,hti,h⟩:∃ t ti,ts.toList=[t,t]∧T t=some ti∧fm T ti s.H (.sl k lo len) (.p v)=some r:=by
     unfold cF at h
     split at h<;>simp only [reduceCtorEq] at *
     rename_i a1 a2 sv xv t t' ea e2 e3
     simp only [List.cons.injEq,and_true] at ea
     obtain ⟨rfl,rfl⟩:=ea
     cases hti:T t with
     | none=>rw [hti] at h; cases h
     | some ti =>
      rw [hti] at h
      simp only at h
      by_cases ht:t=t'
      ·rw [if_pos ht] at h; subst ht; exact ⟨t,ti,e2,hti,h⟩
      rw [if_neg ht] at h; cases h
    obtain ⟨cc,xs,V,hg,hall⟩:=tW h
    have hr:r=⟨V,.sl s.H.length 0 (len + xs.length),aF s.H k .dead++[.own ((cc.drop lo).take len++xs.map .p)]⟩:=by
     have:=hall s.H hg
     rw [h] at this
     exact Option.some.inj this
    have hkl:k < s.H.length:=(List.getElem?_eq_some_iff.1 (bE hg)).1
    have hb:aA r.H s.H.length = .own ((cc.drop lo).take len++xs.map .p):=by
     rw [hr]; simp only; rw [bc (by rw [aB]; exact Nat.le_refl _),aB,Nat.sub_self]; rfl
    have hV:V:=by rw [hr] at hvc; exact hvc
    refine ⟨⟨⟨hkl,rfl⟩,fun s2 hn ha hH hd n1 n2 n3=>?_⟩,?_⟩
    ·simp only [fI]
     rw [hb,hr]
     rw [hg] at hH
     have h2:cW T s2 o.op=some ⟨V,.sl s2.H.length 0 (len + xs.length),aF s2.H k .dead++[.own ((cc.drop lo).take len++xs.map .p)]⟩:=by
      rw [hop]
      simp only [cW]
      rw [hev s2 ha,hts]
      simp only [cF,hti,if_true]
      exact hall s2.H hH
     have hkne:k ≠ s.H.length:=by omega
     have hdd:(aF s2.H k .dead)[s.H.length]? = some .dead:=by
      rw [bF,if_neg (fun hh=>hkne hh.1.symm)]; exact hd
     refine uV.wp fun C m a w R=>?_
     obtain ⟨v',w',m',hy,R',hv⟩:=cY hT h2 hV C m a w R
     have hlen:(aF s2.H k .dead).length=s2.H.length:=aB _ _ _
     have hown:∀ (j:Nat) (c:List AV),(aF s2.H k .dead)[j]? = some (aH.own c)→s2.H[j]? = some (aH.own c):=by
      intro j c hj
      rw [bF] at hj
      by_cases e:j=k∧k < s2.H.length
      ·rw [if_pos e] at hj; cases hj
      rw [if_neg e] at hj; exact hj
     obtain ⟨g1,_,g2⟩:=Rel.move (s:={ s2 with H:=aF s2.H k .dead }) (R.kill k) (b:=.own ((cc.drop lo).take len++xs.map .p)) R' hdd (fun b i j hj=>n3 b i j (by rw [bF] at hj; by_cases e:b=k∧k < s2.H.length; (rw [if_pos e] at hj; cases hj); (rw [if_neg e] at hj; exact hj))) (fun _ _ h=>by cases h) n1 (fun j c hj=>n2 j c (hown j c hj)) fun c hc i hi=>by
      cases hc
      have hcc:=bE hH
      by_cases hlt:i < ((cc.drop lo).take len).length
      ·rw [List.getElem_append_left hlt]
       simp only [List.getElem_take,List.getElem_drop]
       have hi2:lo + i < cc.length:=by
        simp only [List.length_take,List.length_drop] at hlt; omega
       refine ⟨n2 k cc hcc _ hi2,?_⟩
       simp only [hlen]
       rcases R.blk k cc hcc with ⟨b1,_⟩ | ⟨l2,cur2,e2,_,_,_,_,_,_,b7⟩
       ·subst b1; simp at hi2
       exact (b7 _ hi2).uw (Nat.le_refl _)
      rw [List.getElem_append_right (by omega),List.getElem_map]
      exact ⟨.p _,.p _⟩
     simp only [hlen] at g1 g2 hv
     exact ⟨v',w',_,hy,g1,g2 _ _ v' hv⟩
    simp only [lu,fI]
    rw [hb,hr]
   | _=>exact other rfl
  | _=>exact other rfl
 | _=>simp only [jP] at hc; first|(simp only [jU,cond_true,cond_false,Option.some.injEq,reduceCtorEq] at hc; done)|exact free rfl (by simpa [jU] using hc.symm)
inductive X2 where
 | run (vc:Prop) (s:St) (acc:List I2)
 | stop (vc:Prop) (rest:List Oper) (s:St) (acc:List I2)
def wH (T:TypeId→Option TI) (all:Array Oper) (o:Oper) (rest:List Oper) (vc:Prop) (s:St) (acc:List I2):X2:=
 match a8 all s o with
 | some true =>
  match jP s o.op,cW T s o.op with
  | some c,some r=>.run (vc∧ay s o.dst∧r.vc) (after o s r) (acc++[⟨c,r.av,fI c r.H,false⟩])
  | _,_=>.stop vc (o :: rest) s acc
 | some false=>.run (vc∧ay s o.dst) (s.put o.dst (.p (.tup []))) (acc++[⟨.f,.p (.tup []),.dead,false⟩])
 | none=>.stop vc (o :: rest) s acc
def nV (T:TypeId→Option TI) (all:Array Oper):List Oper→X2→X2
 | [],x=>x
 | o :: r,.run vc s acc=>nV T all r (wH T all o r vc s acc)
 | _ :: _,.stop vc rest s acc=>.stop vc rest s acc
def fE (P:Program) (all:Array Oper) (rest:List Oper) (K:St→List I2→Prop) (s:St) (acc:List I2):Prop:=∃ s' xs,uB P all rest xs s s'∧K s' (acc++xs)
def De (P:Program) (all:Array Oper) (K:St→List I2→Prop):X2→Prop
 | .run vc s acc=>vc∧K s acc
 | .stop vc rest s acc=>vc∧fE P all rest K s acc
theorem oT (all:Array Oper) (l:List Oper) (vc:Prop) (rest:List Oper) (s:St) (acc:List I2):nV T all l (.stop vc rest s acc) = .stop vc rest s acc:=by cases l<;>rfl
theorem jQ (hT:∀ t ti,T t=some ti→bk P t=some ti) {all:Array Oper} {K:St→List I2→Prop} : ∀ (ops:List Oper) (vc:Prop) (s:St) (acc:List I2),De P all K (nV T all ops (.run vc s acc))→vc∧fE P all ops K s acc
 | [],vc,s,acc,h=>⟨h.1,s,[],.nil s,by rw [List.append_nil]; exact h.2⟩
 | o :: r,vc,s,acc,h=>by
  simp only [nV,wH] at h
  split at h
  ·rename_i hg
   split at h
   ·rename_i c ov hcl hov
    obtain ⟨⟨h1,h2,h3⟩,s',xs,hr,hK⟩:=jQ hT r _ _ _ h
    obtain ⟨g1,g2⟩:=BQ hT hcl hov h3
    refine ⟨h1,s',_ :: xs,.op hg (bC h2) g1 (fun h=>by cases h) ?_,by rw [List.append_assoc] at hK; exact hK⟩
    rw [← g2]
    exact hr
   rw [oT] at h; exact h
  ·rename_i hg
   obtain ⟨⟨h1,h2⟩,s',xs,hr,hK⟩:=jQ hT r _ _ _ h
   exact ⟨h1,s',_ :: xs,.skip hg (bC h2) hr,by rw [List.append_assoc] at hK; exact hK⟩
  rw [oT] at h; exact h
theorem aM (hT:∀ t ti,T t=some ti→bk P t=some ti) {all:Array Oper} {rest:List Oper} {K:St→List I2→Prop} {s:St} {acc:List I2} (h:De P all K (nV T all rest (.run True s acc))):fE P all rest K s acc:=
 (jQ hT rest True s acc h).2
def He:AV→Bool
 | .p _=>true
 | _=>false
theorem bJ {all:Array Oper} {rest:List Oper} {K:St→List I2→Prop} {acc:List I2} {s:St} {dst:Option Tmp} {ty:TypeId} {pos:String} {aft:Array Edge} {gd:Option (Nat × Bool)} {fo:Operand} {args:Array Operand} {ts:Array TypeId} {g:FuncId} {avs:List PV} {p:Prop} {b:Bool} {r:PV}
  (hc:ct P g avs r) (hg:a8 all s { dst:=dst,op:=.call { callee:=.value fo,args:=args,argTypes:=ts },type:=ty,pos:=pos,after:=aft,guard:=gd } = some true)
  (hcall:da s fo args=some (g,avs,p,b)) (hb:(b || r.fz)=true) (hpure:args.toList.all (fun x=>He (s.ev x))=true) (hd:ay s dst) (hp:p) (h:fE P all rest K (s.put dst (.p r)) (acc++[⟨.f,.p r,.dead,false⟩])) :
  fE P all ({ dst:=dst,op:=.call { callee:=.value fo,args:=args,argTypes:=ts },type:=ty,pos:=pos,after:=aft,guard:=gd } :: rest) K s acc:=by
 obtain ⟨s',xs,hr,hK⟩:=h
 refine ⟨s',⟨.f,.p r,.dead,false⟩ :: xs,.op hg (bC hd) ?_ (fun h=>by cases h) hr,by rw [List.append_assoc] at hK; exact hK⟩
 intro s2 hn ha
 have ha' : ∀ x∈(Op.call { callee:=.value fo,args:=args,argTypes:=ts }).operands,s2.ev x=s.ev x:=ha
 simp only [Op.operands,Call.operands] at ha'
 have h1:s2.ev fo=s.ev fo:=ha' fo (by simp)
 have h2:args.toList.map s2.ev=args.toList.map s.ev:=List.map_congr_left fun x hx=>ha' x (by simp; right; simpa using hx)
 have h3:∀ l:List AV,l.all He=true→aU (bH s2.H) l=aU (bH s.H) l:=by
  intro l
  induction l with
  | nil=>intro _; rfl
  | cons x l ih =>
   intro hl
   simp only [List.all_cons,Bool.and_eq_true] at hl
   simp only [aU]
   rw [ih hl.2]
   cases x with
   | p v=>rfl
   | _=>simp [He] at hl
 have:da s2 fo args=some (g,avs,p,b):=by
  rw [← hcall]
  unfold da
  rw [h1,h2,h3 _ (by rw [List.all_map]; exact hpure)]
 exact mV rfl hc this hp hb
theorem w7 {s s2:St} {fo:Operand} {args:Array Operand} (ts:Array TypeId) (ha:∀ x∈(Op.call { callee:=.value fo,args:=args,argTypes:=ts }).operands,s2.ev x=s.ev x) (h:∀ x∈args.toList,bH s2.H (s.ev x)=bH s.H (s.ev x)):da s2 fo args=da s fo args:=by
 simp only [Op.operands,Call.operands] at ha
 have h1:s2.ev fo=s.ev fo:=ha fo (by simp)
 have h2:args.toList.map s2.ev=args.toList.map s.ev:=List.map_congr_left fun x hx=>ha x (by simp; right; simpa using hx)
 have h3:∀ l:List Operand,(∀ x∈l,bH s2.H (s.ev x)=bH s.H (s.ev x))→aU (bH s2.H) (l.map s.ev)=aU (bH s.H) (l.map s.ev):=by
  intro l
  induction l with
  | nil=>intro _; rfl
  | cons x l ih =>
   intro hl
   simp only [List.map_cons,aU]
   rw [ih fun y hy=>hl y (by simp [hy]),hl x (by simp)]
 unfold da
 rw [h1,h2,h3 _ h]
def FA (k:Nat):AV→Bool
 | .p _=>true
 | .sl j _ _=>j == k
 | _=>false
theorem ua {all:Array Oper} {rest:List Oper} {K:St→List I2→Prop} {acc:List I2} {s:St} {dst:Option Tmp} {ty:TypeId} {pos:String} {aft:Array Edge} {gd:Option (Nat × Bool)} {fo:Operand} {args:Array Operand} {ts:Array TypeId} {g:FuncId} {avs:List PV} {p:Prop} {len:Nat} {l:List PV}
  (hc:wz P g avs (.sl 0 0 len) [.own (bq l)]) (hg:a8 all s { dst:=dst,op:=.call { callee:=.value fo,args:=args,argTypes:=ts },type:=ty,pos:=pos,after:=aft,guard:=gd } = some true)
  (hcall:da s fo args=some (g,avs,p,true)) (hpure:args.toList.all (fun x=>He (s.ev x))=true) (hd:ay s dst) (hp:p)
  (h:fE P all rest K (({ s with H:=s.H++[.own (bq l)] } : St).put dst (.sl s.H.length 0 len)) (acc++[⟨.nw s.H.length,.sl s.H.length 0 len,.own (bq l),true⟩])) :
  fE P all ({ dst:=dst,op:=.call { callee:=.value fo,args:=args,argTypes:=ts },type:=ty,pos:=pos,after:=aft,guard:=gd } :: rest) K s acc:=by
 obtain ⟨s',xs,hr,hK⟩:=h
 refine ⟨s',⟨.nw s.H.length,.sl s.H.length 0 len,.own (bq l),true⟩ :: xs,.op hg (bC hd) ⟨rfl,?_⟩ (fun _ c hc q hq κ=>by
  obtain rfl:c=bq l:=by simpa [I2.pW] using hc
  have e:∃ v,(bq l)[q] = .p v:=⟨l[q]'(by simpa [bq] using hq),by simp [bq]⟩
  obtain ⟨v,e⟩:=e
  rw [e]
  exact .p _) hr,by rw [List.append_assoc] at hK; exact hK⟩
 intro s2 hn ha hdd n1 n2 n3
 have hcall2:da s2 fo args=some (g,avs,p,true):=by
  rw [← hcall]
  refine w7 ts ha fun x hx=>?_
  have:=(List.all_eq_true.1 hpure) x hx
  cases hev:s.ev x with
  | p v=>rfl
  | _=>rw [hev] at this; simp [He] at this
 have hdo:=oY (P:=P) (s:=s2) (o:={ dst:=dst,op:=.call { callee:=.value fo,args:=args,argTypes:=ts },type:=ty,pos:=pos,after:=aft,guard:=gd }) rfl hc hcall2 hp (by simp [HA,bj,bn,jY])
 have e1:Go.Pv.aY (nO s2.H.length [aH.own (bq l)].length) (.sl 0 0 len) = .sl s2.H.length 0 len:=rfl
 have e2:s2.H++[aH.own (bq l)].map (aH.aY (nO s2.H.length [aH.own (bq l)].length))=s2.H++[.own (bq l)]:=by
  simp only [List.map_cons,List.map_nil,aH.aY,iW]
 rw [e1,e2] at hdo
 intro C m a w K Q R hK
 refine hdo C m a w K Q R fun v m' w' R' hv=>?_
 obtain ⟨g1,_,g2⟩:=Rel.move R (b:=.own (bq l)) R' hdd n3 (fun _ _ h=>by cases h) n1 n2 fun c hc i hi=>by
  cases hc
  have e:∃ v,(bq l)[i] = .p v:=⟨l[i]'(by simpa [bq] using hi),by simp [bq]⟩
  obtain ⟨v,e⟩:=e
  rw [e]
  exact ⟨.p _,.p _⟩
 exact hK v _ w' g1 (g2 _ _ v hv)
theorem db {all:Array Oper} {K:St→List I2→Prop} {vc:Prop} {s:St} {acc:List I2} (h1:vc) (h2:K s acc):De P all K (.run vc s acc):=⟨h1,h2⟩
theorem bw {all:Array Oper} {K:St→List I2→Prop} {vc:Prop} {r:List Oper} {s:St} {acc:List I2} (h1:vc) (h2:fE P all r K s acc):De P all K (.stop vc r s acc):=⟨h1,h2⟩
theorem cZ {Q:Exit→St→Prop} {s:St} {id:Nat} {l:List Oper} (hm:P.follows .mixedOrders=true) (h:∀ K:St→List I2→Prop,(∀ s' xs,gP l.toArray xs=true→Q .normal s'→K s' xs)→fE P l.toArray l K s []):Holds P (.region id l.toArray true) Q s:=by
 intro r ds C m a w R hd
 obtain ⟨s',xs,hr,hK⟩:=h (fun s' xs=>gP l.toArray xs=true∧Q .normal s') fun _ _ h1 h2=>⟨h1,h2⟩
 rw [List.nil_append] at hK
 refine eM hm ?_
 exact uA hK.1 (by simpa using hr) (R.later ⟨rfl,rfl,rfl,Nat.le_refl _,fun _ _=>rfl,Nat.le_succ _⟩) hd fun m' a' w' R' hd'=>⟨s',m',hK.2,R',hd'⟩
end
def lP:=And.intro @nV.eq_1
 <| And.intro @nV.eq_2
 <| And.intro @nV.eq_3
 <| And.intro @wH.eq_1
 <| And.intro @jP.eq_1
 <| And.intro @jP.eq_2
 <| And.intro @jP.eq_3
 <| And.intro @jP.eq_4
 <| And.intro @jP.eq_5
 <| And.intro @jP.eq_6
 <| And.intro @jP.eq_7
 <| And.intro @lz.eq_1
 <| And.intro @lz.eq_2
 <| And.intro @fI.eq_1
 <| And.intro @fI.eq_2
 <| And.intro @fI.eq_3
 <| And.intro @fI.eq_4
 <| And.intro @jU.eq_1
 <| And.intro @jU.eq_2
 <| And.intro @jU.eq_3
 <| And.intro @jU.eq_4
 <| And.intro @jU.eq_5
 <| And.intro @jU.eq_6
 <| And.intro @jU.eq_7
 <| And.intro @jU.eq_8
 <| And.intro @jU.eq_9
 <| And.intro @jU.eq_10
 <| And.intro @jU.eq_11
 <| And.intro @jU.eq_12
 <| And.intro @jU.eq_13
 <| And.intro @jU.eq_14
 <| And.intro @jU.eq_15
 <| And.intro @jU.eq_16
 <| And.intro @jU.eq_17
 <| And.intro @He.eq_1
 <| And.intro @He.eq_2
 <| And.intro @FA.eq_1
 <| And.intro @FA.eq_2
 <| And.intro @FA.eq_3
 <| And.intro @cond_true.{0}
 <| @cond_false.{0}
def qa:=@H8
def qb:=@Io
def qc:=@Ie
def qd:=@HU
def qe:=@Is
def qf:=@H7
def qh:=@CZ
def qi:=@BC
def qj:=@Cx
def qk:=@Hd
def ql:=@AU
def qm:=@Gp
def qg:=@Ic
end Go.Pv
