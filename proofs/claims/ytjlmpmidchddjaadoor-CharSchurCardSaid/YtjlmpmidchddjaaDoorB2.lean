/-
  Texts of this proof, one behind the other: what each says stands at its head. Conditions: none.
-/
import Derived.Test.YtjlmpmidchddjaaDoorB1
import Derived.ProofKit
import Derived.OpenShut
import Derived.ChangeCalls
import Derived.SizedLaws

set_option linter.all false
namespace Go.Pv
open Go.RowKit
theorem Rel.congr {C:Ctx} {m:Map} {s s2:St} {tmps:Array Value} {w:World} (h:Rel C m s tmps w) (h1:∀ t,s2.get t=s.get t) (h2:s2.H=s.H) (h3:s2.n=s.n):Rel C m s2 tmps w:=by
 refine ⟨by rw [h2]; exact h.laid,h.below,h.base,by rw [h3]; exact h.size,?_,?_,?_,fun t=>?_,by rw [h2]; exact h.mp⟩
 ·rw [h2]; exact h.inj
 ·rw [h2]; exact h.blk
 ·rw [h2]; exact h.fro
 rw [h1,h2]; exact h.slot t
section
variable {P:Program} {ops:Array Oper}
structure Out where
 av:AV
 H:Heap
def sD (ops:Array Oper) (out:Nat→Out) (s:St) (D:Nat→Bool):Nat→St
 | 0=>s
 | k + 1=>if D k then ({ sD ops out s D k with H:=if isW (opAt ops k).op then (out k).H else (sD ops out s D k).H } : St).put (opAt ops k).dst (out k).av else sD ops out s D k
theorem get_put (s:St) (d:Option Nat) (x:AV) (t:Nat):(s.put d x).get t=if d=some t then x else s.get t:=by
 cases d with
 | none=>simp [St.put]
 | some d =>
  by_cases h:d=t
  ·subst h; simp [St.put,St.get,lk]
  simp [St.put,St.get,lk,h,show (d == t)=false by simpa using h]
theorem sD_n (out:Nat→Out) (s:St) (D:Nat→Bool):∀ k,(sD ops out s D k).n=s.n
 | 0=>rfl
 | k + 1=>by
  simp only [sD]
  split
  ·rw [St.put_n]; exact sD_n out s D k
  exact sD_n out s D k
theorem sD_get (out:Nat→Out) (s:St) (D:Nat→Bool) (k t:Nat):(sD ops out s D (k + 1)).get t=if D k=true∧(opAt ops k).dst=some t then (out k).av else (sD ops out s D k).get t:=by
 simp only [sD]
 by_cases h:D k=true
 ·rw [if_pos h,get_put]
  by_cases hd:(opAt ops k).dst=some t
  ·have hr:D k=true∧(opAt ops k).dst=some t:=⟨h,hd⟩
   rw [if_pos hd,if_pos hr]
  have hr:¬ (D k=true∧(opAt ops k).dst=some t):=fun hh=>hd hh.2
  rw [if_neg hd,if_neg hr]; rfl
 have hr:¬ (D k=true∧(opAt ops k).dst=some t):=fun hh=>h hh.1
 rw [if_neg h,if_neg hr]
theorem sD_H (out:Nat→Out) (s:St) (D:Nat→Bool) (k:Nat):(sD ops out s D (k + 1)).H=if D k=true∧isW (opAt ops k).op=true then (out k).H else (sD ops out s D k).H:=by
 simp only [sD]
 by_cases h:D k=true
 ·rw [if_pos h,St.put_H]
  by_cases hd:isW (opAt ops k).op=true
  ·have hr:D k=true∧isW (opAt ops k).op=true:=⟨h,hd⟩
   rw [if_pos hr]; simp only [hd,if_true]
  have hr:¬ (D k=true∧isW (opAt ops k).op=true):=fun hh=>hd hh.2
  rw [if_neg hr]; simp only [hd,Bool.false_eq_true,if_false]
 have hr:¬ (D k=true∧isW (opAt ops k).op=true):=fun hh=>h hh.1
 rw [if_neg h,if_neg hr]
theorem sD_get_stay (out : Nat → Out) (s : St) (D : Nat → Bool) (t : Nat) : ∀ k n, k ≤ n → (∀ i, k ≤ i → i < n → D i = true → (opAt ops i).dst ≠ some t) → (sD ops out s D n).get t = (sD ops out s D k).get t := by
  intro k n hkn h
  induction n with
  | zero => obtain rfl : k = 0 := by omega
            rfl
  | succ n ih =>
    by_cases hk : k = n + 1
    · rw [hk]
    · rw [sD_get, if_neg (fun hh => h n (by omega) (by omega) hh.1 hh.2)]
      exact ih (by omega) fun i h1 h2 => h i h1 (by omega)
theorem sD_H_stay (out : Nat → Out) (s : St) (D : Nat → Bool) : ∀ k n, k ≤ n → (∀ i, k ≤ i → i < n → D i = true → isW (opAt ops i).op = false) → (sD ops out s D n).H = (sD ops out s D k).H := by
  intro k n hkn h
  induction n with
  | zero => obtain rfl : k = 0 := by omega
            rfl
  | succ n ih =>
    by_cases hk : k = n + 1
    · rw [hk]
    · rw [sD_H, if_neg (fun hh => by have := h n (by omega) (by omega) hh.1; rw [this] at hh; simp at hh)]
      exact ih (by omega) fun i h1 h2 => h i h1 (by omega)
theorem sD_get_same (out:Nat→Out) (s:St) (D D' : Nat→Bool) (t:Nat):∀ k,(∀ i,i < k→(opAt ops i).dst=some t→D i=D' i)→(sD ops out s D k).get t=(sD ops out s D' k).get t:=by
 intro k h
 induction k with
 | zero=>rfl
 | succ k ih =>
  rw [sD_get,sD_get,ih fun i hi=>h i (by omega)]
  by_cases hd:(opAt ops k).dst=some t
  ·rw [h k (by omega) hd]
  rw [if_neg (fun hh=>hd hh.2),if_neg (fun hh=>hd hh.2)]
theorem sD_H_same (out:Nat→Out) (s:St) (D D' : Nat→Bool):∀ k,(∀ i,i < k→isW (opAt ops i).op=true→D i=D' i)→(sD ops out s D k).H=(sD ops out s D' k).H:=by
 intro k h
 induction k with
 | zero=>rfl
 | succ k ih =>
  rw [sD_H,sD_H,ih fun i hi=>h i (by omega)]
  by_cases hd:isW (opAt ops k).op=true
  ·rw [h k (by omega) hd]
  rw [if_neg (fun hh=>hd hh.2),if_neg (fun hh=>hd hh.2)]
structure Fact (P:Program) (ops:Array Oper) (out:Nat→Out) (s:St) (j:Nat) (o:Oper):Prop where
 dst:∀ t,o.dst=some t→t < s.n
 how:(guardA ops (sD ops out s (fun _=>true) j) o=some false∧(out j).av = .p (.tup [])∧isW o.op=false) ∨
  (guardA ops (sD ops out s (fun _=>true) j) o=some true∧Loc1 P o (sD ops out s (fun _=>true) j) (out j).av (out j).H)
theorem Run1.facts:∀ (l:List Oper) (k:Nat) (pre:Nat→Out) (s s1 s' : St),(∀ i,l[i]? = ops[k + i]?)→k + l.length=ops.size→(∀ t,s1.get t=(sD ops pre s (fun _=>true) k).get t)→s1.H=(sD ops pre s (fun _=>true) k).H→s1.n=s.n →
  (∀ o∈l,o.guard ≠ none→isW o.op=false) →
  Run1 P true ops l s1 s'→∃ out:Nat→Out,(∀ i,i < k→out i=pre i)∧(∀ i o,k≤i→ops[i]? = some o→Fact P ops out s i o)∧(∀ t,s'.get t=(sD ops out s (fun _=>true) ops.size).get t)∧s'.H=(sD ops out s (fun _=>true) ops.size).H∧s'.n=s.n
 | [],k,pre,s,s1,s',hl,hk,hg,hH,hn,_,hr=>by
  cases hr
  simp at hk
  subst hk
  refine ⟨pre,fun _ _=>rfl,fun i o hi ho=>?_,hg,hH,hn⟩
  have:=(Array.getElem?_eq_some_iff.1 ho).1
  omega
 | o :: r,k,pre,s,s1,s',hl,hk,hg,hH,hn,hgw,hr=>by
  have ho:ops[k]? = some o:=by have:=hl 0; simpa using this.symm
  have hod:opAt ops k=o:=opAt_of ho
  have sDpre:∀ (x:Out) (j:Nat),j≤k→sD ops (fun i=>if i=k then x else pre i) s (fun _=>true) j=sD ops pre s (fun _=>true) j:=by
   intro x j hj
   induction j with
   | zero=>rfl
   | succ j ih =>
    simp only [sD]
    rw [ih (by omega),if_neg (by omega:¬ j=k)]
  have hgs:∀ b,guardA ops s1 o=some b→guardA ops (sD ops pre s (fun _=>true) k) o=some b:=by
   intro b h
   unfold guardA at h ⊢
   simp only [hg] at h
   exact h
  cases hr with
  | cons h hr =>
   have next:∀ (x:Out) (sn:St),(∀ t,sn.get t=if o.dst=some t then x.av else s1.get t)→(sn.H=if isW o.op=true then x.H else s1.H)→sn.n=s1.n→Run1 P true ops r sn s' →
     Fact P ops (fun i=>if i=k then x else pre i) s k o →
     ∃ out:Nat→Out,(∀ i,i < k→out i=pre i)∧(∀ i o,k≤i→ops[i]? = some o→Fact P ops out s i o)∧(∀ t,s'.get t=(sD ops out s (fun _=>true) ops.size).get t)∧s'.H=(sD ops out s (fun _=>true) ops.size).H∧s'.n=s.n:=by
    intro x sn h1 h2 h3 hrn hf
    obtain ⟨out,g1,g2,g3⟩:=Run1.facts r (k + 1) (fun i=>if i=k then x else pre i) s sn s' (fun i=>by have:=hl (i + 1); simp only [List.getElem?_cons_succ] at this; rw [this]; congr 1; omega) (by simp at hk; omega)
     (fun t=>by rw [h1,sD_get,hod,sDpre x k (Nat.le_refl _),hg]; simp) (by rw [h2,sD_H,hod,sDpre x k (Nat.le_refl _),hH]; simp) (by rw [h3,hn]) (fun o ho=>hgw o (by simp [ho])) hrn
    refine ⟨out,fun i hi=>?_,fun i o' hi ho'=>?_,g3⟩
    ·rw [g1 i (by omega),if_neg (by omega)]
    by_cases hik:i=k
    ·subst hik
     rw [ho] at ho'; cases ho'
     have e1:∀ j,j≤i→sD ops out s (fun _=>true) j=sD ops (fun i'=>if i' = i then x else pre i') s (fun _=>true) j:=by
      intro j hj
      induction j with
      | zero=>rfl
      | succ j ih=>simp only [sD]; rw [ih (by omega),g1 j (by omega)]
     have e2:out i=(fun i'=>if i' = i then x else pre i') i:=g1 i (by omega)
     refine ⟨hf.dst,?_⟩
     have:=hf.how
     rw [e1 i (Nat.le_refl _),e2]
     exact this
    exact g2 i o' (by omega) ho'
   cases h with
   | skip hgd hd =>
    have hgn:o.guard ≠ none:=by
     intro e
     unfold guardA at hgd
     rw [e] at hgd
     simp at hgd
    have hw:=hgw o (by simp) hgn
    refine next ⟨.p (.tup []),s1.H⟩ _ (fun t=>get_put _ _ _ _) (by rw [St.put_H]; simp) (St.put_n _ _ _) hr ⟨fun t ht=>by rw [← hn]; exact hd t ht,.inl ⟨?_,by simp,hw⟩⟩
    rw [sDpre _ k (Nat.le_refl _)]
    exact hgs false hgd
   | op av H' hgd hd hdo hloc =>
    have hloc:=hloc rfl
    have hag:∀ (s2:St),(∀ t,s2.get t=(sD ops pre s (fun _=>true) k).get t)→∀ x,s2.ev x=s1.ev x:=by
     intro s2 h2 x
     cases x<;>simp only [St.ev]
     rw [h2,hg]
    refine next ⟨av,H'⟩ (({ s1 with H:=H' } : St).put o.dst av) (fun t=>by rw [get_put]; rfl) (by
      rw [St.put_H]
      by_cases hw:isW o.op=true
      ·rw [if_pos hw]
      rw [if_neg hw]; exact hloc.calm (by simpa using hw)) (St.put_n _ _ _) hr ⟨fun t ht=>by rw [← hn]; exact hd t ht,.inr ⟨?_,?_⟩⟩
    ·rw [sDpre _ k (Nat.le_refl _)]; exact hgs true hgd
    rw [sDpre _ k (Nat.le_refl _)]
    simp only [if_true]
    have hev:∀ x,(sD ops pre s (fun _=>true) k).ev x=s1.ev x:=hag _ fun _=>rfl
    have hnn:(sD ops pre s (fun _=>true) k).n=s1.n:=by rw [sD_n,hn]
    refine ⟨fun s2 h1 h2 h3=>hloc.here s2 (h1.trans hnn) (fun x hx=>(h2 x hx).trans (hev x)) (h3.trans hH.symm),fun hf=>?_,fun hw=>by rw [← hH]; exact hloc.calm hw⟩
    obtain ⟨e1,e2⟩:=hloc.free hf
    exact ⟨by rw [← hH]; exact e1,fun s2 h1 h2=>e2 s2 (h1.trans hnn) (fun x hx=>(h2 x hx).trans (hev x))⟩
theorem isW_isT {o:Op} (h:isW o=true):isT o=true:=by
 unfold isW at h
 split at h<;>first|rfl|cases h
theorem drawOK_spec (h:drawOK ops=true):(∀ j o,ops[j]? = some o→∀ e∈o.after.toList,Region.binds .any e=true→e.on < j) ∧
  ∀ i j oi oj,i < j→ops[i]? = some oi→ops[j]? = some oj→apartB ops oi oj=false→((anc ops).getD j 0).testBit i=true:=by
 unfold drawOK at h
 rw [List.all_eq_true] at h
 constructor
 ·intro j o ho e he hb
  have hj:=(Array.getElem?_eq_some_iff.1 ho).1
  have:=h j (by simpa using hj)
  rw [Bool.and_eq_true] at this
  have h1:=(List.all_eq_true.1 this.1) e (by rw [opAt_of ho]; exact he)
  rw [hb] at h1
  simpa using h1
 intro i j oi oj hij hi hj ha
 have hj':=(Array.getElem?_eq_some_iff.1 hj).1
 have:=h j (by simpa using hj')
 rw [Bool.and_eq_true] at this
 have h1:=(List.all_eq_true.1 this.2) i (by simpa using hij)
 rw [opAt_of hi,opAt_of hj,ha,Bool.false_or] at h1
 exact h1
theorem draw_sound {Q:Exit→Act→World→Prop} {C:Ctx} {ds:List Deferred} {s s' : St} (hok:drawOK ops=true) (hgw:∀ o∈ops.toList,o.guard ≠ none→isW o.op=false) (hrun:Run1 P true ops ops.toList s s') {m:Map} {a:Act} {w:World} (R:Rel C m s a.tmps w) (hd:a.defers=ds)
  (hQ:∀ m' (a' : Act) w',Rel C m' s' a'.tmps w'→a'.defers=ds→Q .normal a' w'):anyR P .any ops Q ops.size (Array.replicate ops.size false) a w:=by
 obtain ⟨hedge,hconf⟩:=drawOK_spec hok
 obtain ⟨out,_,hfact,hget',hH',hn'⟩:=Run1.facts (ops:=ops) ops.toList 0 (fun _=>⟨.dead,[]⟩) s s s' (fun i=>by simp) (by simp) (fun _=>rfl) rfl rfl hgw hrun
 have hfact:∀ i o,ops[i]? = some o→Fact P ops out s i o:=fun i o=>hfact i o (Nat.zero_le _)
 have key:∀ (fuel:Nat) (listed:Array Bool) (m:Map) (a:Act) (w:World),listed.size=ops.size→(List.range ops.size).countP (fun i=>!listed.getD i true)=fuel →
   (∀ j o,listed.getD j false=true→ops[j]? = some o→∀ e∈o.after.toList,Region.binds .any e=true→listed.getD e.on false=true) →
   Rel C m (sD ops out s (fun i=>listed.getD i false) ops.size) a.tmps w→a.defers=ds→anyR P .any ops Q fuel listed a w:=by
  intro fuel
  induction fuel with
  | zero =>
   intro listed m a w hsz hcnt hcl R hd
   have hall:∀ i,i < ops.size→listed.getD i true=true:=by
    intro i hi
    have:=List.countP_eq_zero.1 hcnt i (by simpa using hi)
    simpa using this
   refine ⟨?_,hQ m a w (R.congr (fun t=>?_) ?_ ?_) hd⟩
   ·unfold Region.ready
    rw [List.filter_eq_nil_iff]
    intro i hi
    have:=hall i (by simpa using hi)
    simp [this]
   ·rw [hget']
    refine (sD_get_same out s _ _ t _ fun i hi _=>?_).symm
    have:=hall i hi
    simp [Array.getD_eq_getD_getElem?,Array.getElem?_eq_getElem (show i < listed.size by omega)] at this ⊢
    exact this
   ·rw [hH']
    refine (sD_H_same out s _ _ _ fun i hi _=>?_).symm
    have:=hall i hi
    simp [Array.getD_eq_getD_getElem?,Array.getElem?_eq_getElem (show i < listed.size by omega)] at this ⊢
    exact this
   rw [sD_n,hn']
  | succ fuel ih =>
   intro listed m a w hsz hcnt hcl R hd
   refine ⟨fun hnil=>?_,fun j hj=>?_⟩
   ·
    exfalso
    have hex:∃ i,i < ops.size∧listed.getD i true=false:=by
     have:0 < (List.range ops.size).countP (fun i=>!listed.getD i true):=by omega
     obtain ⟨i,hi,h⟩:=List.countP_pos_iff.1 this
     exact ⟨i,by simpa using hi,by simpa using h⟩
    have hmin:∃ i,i < ops.size∧listed.getD i true=false∧∀ k,k < i→listed.getD k true=true:=by
     obtain ⟨i,hi,h⟩:=hex
     induction i using Nat.strongRecOn with
     | _ i ihh =>
      by_cases hall:∀ k,k < i→listed.getD k true=true
      ·exact ⟨i,hi,h,hall⟩
      simp only [Classical.not_forall] at hall
      obtain ⟨k,hk,hkn⟩:=hall
      exact ihh k hk (by omega) (by simpa using hkn)
    obtain ⟨i,hi,hli,hbelow⟩:=hmin
    have hmem:i∈Region.ready .any ops listed:=by
     unfold Region.ready
     rw [List.mem_filter]
     refine ⟨by simpa using hi,?_⟩
     rw [hli,Array.getElem?_eq_getElem hi]
     simp only [Bool.not_false,Bool.true_and,Option.map_some,Option.getD_some]
     rw [Array.all_eq_true_iff_forall_mem]
     intro e he
     by_cases hb:Region.binds .any e=true
     ·have hlt:=hedge i ops[i] (Array.getElem?_eq_getElem hi) e (by simpa using he) hb
      have:=hbelow e.on hlt
      have hlt' : e.on < listed.size:=by omega
      simp [Array.getD_eq_getD_getElem?,Array.getElem?_eq_getElem hlt'] at this ⊢
      simp [this]
     simp [hb]
    rw [hnil] at hmem
    simp at hmem
   unfold Region.ready at hj
   rw [List.mem_filter] at hj
   obtain ⟨hjlt,hj⟩:=hj
   have hjlt:j < ops.size:=by simpa using hjlt
   have hoj:ops[j]? = some ops[j]:=Array.getElem?_eq_getElem hjlt
   generalize ops[j]=o at hoj
   rw [hoj] at hj
   simp only [Option.map_some,Option.getD_some,Bool.and_eq_true,Bool.not_eq_eq_eq_not,Bool.not_true] at hj
   obtain ⟨hnl,hal⟩:=hj
   have hjls:j < listed.size:=by omega
   have hnl' : listed.getD j false=false:=by
    simp [Array.getD_eq_getD_getElem?,Array.getElem?_eq_getElem hjls] at hnl ⊢
    exact hnl
   have hpre:∀ e∈o.after.toList,Region.binds .any e=true→listed.getD e.on false=true:=by
    intro e he hb
    have:=(Array.all_eq_true_iff_forall_mem.1 hal) e (by simpa using he)
    rw [hb] at this
    simpa using this
   have hanc:∀ i,((anc ops).getD j 0).testBit i=true→listed.getD i false=true:=
    anc_in (D:=fun i=>listed.getD i false=true) hcl j j o (Nat.le_refl _) hoj hpre
   have hanc' : ∀ i,listed.getD i false=true→∀ oi,ops[i]? = some oi→∀ k,((anc ops).getD i 0).testBit k=true→listed.getD k false=true:=
    fun i hi oi hoi=>anc_in (D:=fun i=>listed.getD i false=true) hcl i i oi (Nat.le_refl _) hoi (hcl i oi hi hoi)
   have hod:opAt ops j=o:=opAt_of hoj
   have low:∀ i,i < j→apartB ops (opAt ops i) o=false→listed.getD i false=true:=by
    intro i hi ha
    have hoi:ops[i]? = some ops[i]:=Array.getElem?_eq_getElem (by omega)
    refine hanc i (hconf i j ops[i] o hi hoi hoj ?_)
    rwa [opAt_of hoi] at ha
   have high:∀ i,j < i→i < ops.size→listed.getD i false=true→apartB ops o (opAt ops i)=true:=by
    intro i hi hlt hli
    have hoi:ops[i]? = some ops[i]:=Array.getElem?_eq_getElem hlt
    have e:opAt ops i=ops[i]:=opAt_of hoi
    rw [e]
    by_cases ha:apartB ops o ops[i]=true
    ·exact ha
    have:=hanc' i hli ops[i] hoi j (hconf j i o ops[i] hi hoj hoi (by simpa using ha))
    rw [this] at hnl'; cases hnl'
   have agree:∀ t,t∈o.looksAt ops→(sD ops out s (fun i=>listed.getD i false) ops.size).get t=(sD ops out s (fun _=>true) j).get t:=by
    intro t ht
    rw [sD_get_stay out s _ t j ops.size (by omega) (fun i h1 h2 h3 h4=>?_)]
    ·refine sD_get_same out s _ _ t j fun i hi hdi=>?_
     rw [low i hi ?_]
     rw [Bool.eq_false_iff]
     intro hap
     unfold apartB at hap
     rw [Bool.and_eq_true,Bool.and_eq_true] at hap
     exact (Oper.apart_spec hap.1.1).1 t hdi ht
    by_cases hij:i=j
    ·subst hij; rw [hnl'] at h3; cases h3
    have hap:=high i (by omega) h2 h3
    unfold apartB at hap
    rw [Bool.and_eq_true,Bool.and_eq_true] at hap
    exact (Oper.apart_spec hap.1.1).2.2 t h4 ht
   have agreeH:isT o.op=true→(sD ops out s (fun i=>listed.getD i false) ops.size).H=(sD ops out s (fun _=>true) j).H:=by
    intro hT
    rw [sD_H_stay out s _ j ops.size (by omega) (fun i h1 h2 h3=>?_)]
    ·refine sD_H_same out s _ _ j fun i hi hwi=>?_
     rw [low i hi ?_]
     rw [Bool.eq_false_iff]
     intro hap
     unfold apartB at hap
     simp [hwi,hT] at hap
    by_cases hij:i=j
    ·subst hij; rw [hnl'] at h3; cases h3
    have hap:=high i (by omega) h2 h3
    unfold apartB at hap
    simp only [hT,Bool.true_and,Bool.and_eq_true,Bool.not_eq_eq_eq_not,Bool.not_true] at hap
    exact hap.2
   have hlist:∀ i,(listed.setIfInBounds j true).getD i false=if i=j then true else listed.getD i false:=by
    intro i
    simp only [Array.getD_eq_getD_getElem?]
    by_cases hij:i=j
    ·subst hij; rw [Array.getElem?_setIfInBounds_self_of_lt hjls,if_pos rfl]; rfl
    rw [Array.getElem?_setIfInBounds_ne (Ne.symm hij),if_neg hij]
   have insertGet:∀ t,(sD ops out s (fun i=>(listed.setIfInBounds j true).getD i false) ops.size).get t=if o.dst=some t then (out j).av else (sD ops out s (fun i=>listed.getD i false) ops.size).get t:=by
    intro t
    have base:∀ k,k≤j→(sD ops out s (fun i=>(listed.setIfInBounds j true).getD i false) k).get t=(sD ops out s (fun i=>listed.getD i false) k).get t:=fun k hk =>
     sD_get_same out s _ _ t k fun i hi _=>by rw [hlist,if_neg (by omega)]
    have step:∀ n,j + 1≤n→n≤ops.size→(sD ops out s (fun i=>(listed.setIfInBounds j true).getD i false) n).get t=if o.dst=some t then (out j).av else (sD ops out s (fun i=>listed.getD i false) n).get t:=by
     intro n hn hns
     induction n with
     | zero=>omega
     | succ n ihn =>
      by_cases hnj:n=j
      ·subst hnj
       rw [sD_get,sD_get,hod,base n (Nat.le_refl _),hlist,if_pos rfl,hnl']
       by_cases hdt:o.dst=some t
       ·simp [hdt]
       simp [hdt]
      rw [sD_get,sD_get,ihn (by omega) (by omega),hlist,if_neg hnj]
      by_cases hln:listed.getD n false=true∧(opAt ops n).dst=some t
      ·rw [if_pos hln,if_pos hln]
       have hap:=high n (by omega) (by omega) hln.1
       unfold apartB at hap
       rw [Bool.and_eq_true,Bool.and_eq_true] at hap
       by_cases hdt:o.dst=some t
       ·exact absurd hln.2 ((Oper.apart_spec hap.1.1).2.1 t hdt)
       rw [if_neg hdt]
      rw [if_neg hln,if_neg hln]
    exact step ops.size (by omega) (Nat.le_refl _)
   have insertH:(sD ops out s (fun i=>(listed.setIfInBounds j true).getD i false) ops.size).H=if isW o.op=true then (out j).H else (sD ops out s (fun i=>listed.getD i false) ops.size).H:=by
    have base:∀ k,k≤j→(sD ops out s (fun i=>(listed.setIfInBounds j true).getD i false) k).H=(sD ops out s (fun i=>listed.getD i false) k).H:=fun k hk =>
     sD_H_same out s _ _ k fun i hi _=>by rw [hlist,if_neg (by omega)]
    have step:∀ n,j + 1≤n→n≤ops.size→(sD ops out s (fun i=>(listed.setIfInBounds j true).getD i false) n).H=if isW o.op=true then (out j).H else (sD ops out s (fun i=>listed.getD i false) n).H:=by
     intro n hn hns
     induction n with
     | zero=>omega
     | succ n ihn =>
      by_cases hnj:n=j
      ·subst hnj
       rw [sD_H,sD_H,hod,base n (Nat.le_refl _),hlist,if_pos rfl,hnl']
       by_cases hdt:isW o.op=true
       ·simp [hdt]
       simp [hdt]
      rw [sD_H,sD_H,ihn (by omega) (by omega),hlist,if_neg hnj]
      by_cases hln:listed.getD n false=true∧isW (opAt ops n).op=true
      ·rw [if_pos hln,if_pos hln]
       have hap:=high n (by omega) (by omega) hln.1
       unfold apartB at hap
       by_cases hdt:isW o.op=true
       ·simp [hdt,isW_isT hln.2] at hap
       rw [if_neg hdt]
      rw [if_neg hln,if_neg hln]
    exact step ops.size (by omega) (Nat.le_refl _)
   have hcnt' : (List.range ops.size).countP (fun i=>!(listed.setIfInBounds j true).getD i true)=fuel:=by
    have hsplit:∀ (l:List Nat),l.Nodup→j∈l→l.countP (fun i=>!listed.getD i true)=l.countP (fun i=>!(listed.setIfInBounds j true).getD i true) + 1:=by
     intro l
     induction l with
     | nil=>intro _ h; simp at h
     | cons x r ihl =>
      intro hnd hmem
      have hx:∀ i,i ≠ j→(listed.setIfInBounds j true).getD i true=listed.getD i true:=by
       intro i hi
       simp only [Array.getD_eq_getD_getElem?]
       rw [Array.getElem?_setIfInBounds_ne (Ne.symm hi)]
      rw [List.nodup_cons] at hnd
      by_cases hxj:x=j
      ·subst hxj
       have e1:(listed.setIfInBounds x true).getD x true=true:=by
        simp only [Array.getD_eq_getD_getElem?]
        rw [Array.getElem?_setIfInBounds_self_of_lt hjls]; rfl
       rw [List.countP_cons,List.countP_cons,hnl,e1]
       have:r.countP (fun i=>!listed.getD i true)=r.countP (fun i=>!(listed.setIfInBounds x true).getD i true):=by
        apply List.countP_congr
        intro i hi
        rw [hx i (fun e=>hnd.1 (e ▸ hi))]
       simp only [this,Bool.not_false,Bool.not_true,if_true,Bool.false_eq_true,if_false,Nat.add_zero]
      rw [List.countP_cons,List.countP_cons,hx x hxj,ihl hnd.2 (by rcases List.mem_cons.1 hmem with h | h; exact absurd h.symm hxj; exact h)]
      omega
    have:=hsplit (List.range ops.size) List.nodup_range (by simpa using hjlt)
    omega
   have hcl' : ∀ i oi,(listed.setIfInBounds j true).getD i false=true→ops[i]? = some oi→∀ e∈oi.after.toList,Region.binds .any e=true→(listed.setIfInBounds j true).getD e.on false=true:=by
    intro i oi hi hoi e he hb
    rw [hlist] at hi ⊢
    by_cases hij:i=j
    ·subst hij
     rw [hoj] at hoi; cases hoi
     rw [hpre e he hb]; simp
    rw [if_neg hij] at hi
    rw [hcl i oi hi hoi e he hb]; simp
   have next:∀ (m' : Map) (a' : Act) (w' : World),(∃ s2:St,Rel C m' s2 a'.tmps w'∧(∀ t,s2.get t=if o.dst=some t then (out j).av else (sD ops out s (fun i=>listed.getD i false) ops.size).get t) ∧
      (s2.H=if isW o.op=true then (out j).H else (sD ops out s (fun i=>listed.getD i false) ops.size).H)∧s2.n=s.n)→a'.defers=ds→anyR P .any ops Q fuel (listed.setIfInBounds j true) a' w':=by
    rintro m' a' w' ⟨s2,R2,e1,e2,e3⟩ hd'
    refine ih _ m' a' w' (by simpa using hsz) hcnt' hcl' (R2.congr (fun t=>?_) ?_ ?_) hd'
    ·rw [insertGet,e1]
    ·rw [insertH,e2]
    rw [sD_n,e3]
   have hgd:∀ b,guardA ops (sD ops out s (fun _=>true) j) o=some b→guardA ops (sD ops out s (fun i=>listed.getD i false) ops.size) o=some b:=by
    intro b h
    unfold guardA at h ⊢
    split at h
    ·exact h
    rename_i g want e
    split at h
    ·rename_i d hdd
     have:(sD ops out s (fun i=>listed.getD i false) ops.size).get d=(sD ops out s (fun _=>true) j).get d:=agree d (by
      unfold Oper.looksAt
      rw [e]
      simp [hdd])
     rw [this]
     exact h
    cases h
   have hsn:(sD ops out s (fun i=>listed.getD i false) ops.size).n=s.n:=sD_n _ _ _ _
   obtain ⟨fd,fh⟩:=hfact j o hoj
   unfold onR
   rw [hoj]
   simp only
   rcases fh with ⟨hg,hdead,hw⟩ | ⟨hg,hloc⟩
   ·rw [guardA_wanted (P:=P) R (hgd _ hg)]
    simp only [Bool.false_eq_true,if_false]
    refine next m _ w ⟨_,R.put (fun t ht=>by rw [hsn]; exact fd t ht) (.p _ _ reads_un),fun t=>?_,?_,?_⟩ (by rw [put_defers]; exact hd)
    ·rw [get_put,hdead]
    ·rw [St.put_H,hw]; simp
    rw [St.put_n,hsn]
   rw [guardA_wanted (P:=P) R (hgd _ hg)]
   simp only [if_true]
   left
   have hag:Agree o (sD ops out s (fun _=>true) j) (sD ops out s (fun i=>listed.getD i false) ops.size):=by
    intro x hx
    cases x with
    | tmp t =>
     simp only [St.ev]
     refine agree t ?_
     unfold Oper.looksAt
     rw [List.mem_append]
     left
     rw [List.mem_filterMap]
     exact ⟨.tmp t,by simpa using hx,rfl⟩
    | _=>rfl
   have hn2:(sD ops out s (fun i=>listed.getD i false) ops.size).n=(sD ops out s (fun _=>true) j).n:=by rw [sD_n,sD_n]
   by_cases hT:isT o.op=true
   ·refine hloc.here _ hn2 hag (agreeH hT) C m a w _ Q R fun v m' w' R' hv=>?_
    refine next m' _ w' ⟨_,R'.put (fun t ht=>by simp only; rw [hsn]; exact fd t ht) hv,fun t=>?_,?_,?_⟩ (by rw [put_defers]; exact hd)
    ·rw [get_put]; rfl
    ·rw [St.put_H]
     by_cases hw:isW o.op=true
     ·rw [if_pos hw]
     rw [if_neg hw,agreeH hT]; exact hloc.calm (by simpa using hw)
    rw [St.put_n]; exact hsn
   obtain ⟨e1,e2⟩:=hloc.free (by simpa using hT)
   refine e2 _ hn2 hag C m a w _ Q R fun v m' w' R' hv=>?_
   have hw:isW o.op=false:=by
    rw [Bool.eq_false_iff]
    exact fun hw=>hT (isW_isT hw)
   refine next m' _ w' ⟨_,R'.put (fun t ht=>by simp only; rw [hsn]; exact fd t ht) hv,fun t=>?_,?_,?_⟩ (by rw [put_defers]; exact hd)
   ·rw [get_put]
   ·rw [St.put_H,hw]; simp
   rw [St.put_n]; exact hsn
 refine key ops.size (Array.replicate ops.size false) m a w (by simp) ?_ ?_ ?_ hd
 ·have:∀ i∈List.range ops.size,(!(Array.replicate ops.size false).getD i true)=true:=by
   intro i hi
   have hi:i < ops.size:=by simpa using hi
   simp [Array.getD_eq_getD_getElem?,hi]
  rw [List.countP_eq_length.2 this]
  simp
 ·intro j o hj
  exfalso
  simp only [Array.getD_eq_getD_getElem?,Array.getElem?_replicate] at hj
  split at hj<;>simp at hj
 refine R.congr (fun t=>?_) ?_ (sD_n _ _ _ _)
 ·refine sD_get_stay out s _ t 0 ops.size (Nat.zero_le _) fun i _ hi h=>?_
  simp only [Array.getD_eq_getD_getElem?,Array.getElem?_replicate] at h
  split at h<;>simp at h
 refine sD_H_stay out s _ 0 ops.size (Nat.zero_le _) fun i _ hi h=>?_
 simp only [Array.getD_eq_getD_getElem?,Array.getElem?_replicate] at h
 split at h<;>simp at h
end
end Go.Pv
namespace Go.Pv
open Go.RowKit
section
variable {P:Program} {T:TypeId→Option TI}
theorem binA_H {op:BinOp} {t:TypeId} {H:Heap} {x y:AV} {r:OV} (h:binA T op t H x y=some r):r.H=H∧∀ H2,binA T op t H2 x y=some { r with H:=H2 }:=by
 unfold binA at h ⊢
 split at h<;>(try split at h)<;>simp only [Option.some.injEq,reduceCtorEq] at h<;>subst h<;>exact ⟨rfl,fun _=>rfl⟩
theorem indexA_H {ti:TI} {H:Heap} {x y:AV} {r:OV} (h:indexA ti H x y=some r):r.H=H∧∀ H2,indexA ti H2 x y=some { r with H:=H2 }:=by
 unfold indexA at h ⊢
 split at h
 ·split at h
  ·rename_i hk
   split at h<;>simp only [Option.some.injEq,reduceCtorEq] at h
   subst h
   refine ⟨rfl,fun H2=>?_⟩
   simp [hk]
  cases h
 cases h
theorem nilA_H {H:Heap} {x:AV} {r:OV} (h:nilA H x=some r):r.H=H∧∀ H2,nilA H2 x=some { r with H:=H2 }:=by
 unfold nilA at h ⊢
 split at h<;>simp only [Option.some.injEq,reduceCtorEq] at h<;>subst h<;>exact ⟨rfl,fun _=>rfl⟩
theorem unA_H {op:UnOp} {H:Heap} {x:AV} {r:OV} (h:unA op H x=some r):r.H=H∧∀ H2,unA op H2 x=some { r with H:=H2 }:=by
 unfold unA at h ⊢
 split at h<;>(try split at h)<;>simp only [Option.some.injEq,reduceCtorEq] at h<;>subst h<;>exact ⟨rfl,fun _=>rfl⟩
theorem pickA_H {H:Heap} {a b x:AV} {r:OV} (h:pickA a b H x=some r):r.H=H∧∀ H2,pickA a b H2 x=some { r with H:=H2 }:=by
 unfold pickA at h ⊢
 split at h<;>simp only [Option.some.injEq,reduceCtorEq] at h<;>subst h<;>exact ⟨rfl,fun _=>rfl⟩
theorem convA_H {src dst:TypeId} {H:Heap} {x:AV} {r:OV} (h:convA T src dst H x=some r):r.H=H∧∀ H2,convA T src dst H2 x=some { r with H:=H2 }:=by
 unfold convA at h ⊢
 split at h<;>(try split at h)<;>simp only [Option.some.injEq,reduceCtorEq] at h<;>subst h<;>exact ⟨rfl,fun _=>by simp_all⟩
theorem fieldAddrA_H {ti:TI} {f:Nat} {H:Heap} {x:AV} {r:OV} (h:fieldAddrA ti f H x=some r):r.H=H∧∀ H2,fieldAddrA ti f H2 x=some { r with H:=H2 }:=by
 unfold fieldAddrA at h ⊢
 split at h<;>(try split at h)<;>(try split at h)<;>simp only [Option.some.injEq,reduceCtorEq] at h<;>subst h<;>exact ⟨rfl,fun _=>by simp_all⟩
theorem fieldA_H {ti:TI} {f:Nat} {H:Heap} {x:AV} {r:OV} (h:fieldA T ti f H x=some r):r.H=H∧∀ H2,fieldA T ti f H2 x=some { r with H:=H2 }:=by
 unfold fieldA at h ⊢
 split at h
 ·split at h
  ·split at h
   ·rename_i tf htf
    cases hr:isRow tf.kind<;>rw [hr] at h<;>simp only [cond_true,cond_false,Option.some.injEq] at h<;>subst h<;>exact ⟨rfl,fun _=>by simp_all⟩
   cases h
  cases h
 cases h
theorem indexAddrA_H {ti:TI} {H:Heap} {x y:AV} {r:OV} (h:indexAddrA T ti H x y=some r):r.H=H∧∀ H2,indexAddrA T ti H2 x y=some { r with H:=H2 }:=by
 unfold indexAddrA at h ⊢
 split at h<;>(try split at h)<;>(try split at h)<;>(try split at h)<;>simp only [Option.some.injEq,reduceCtorEq] at h<;>subst h<;>exact ⟨rfl,fun _=>by simp_all⟩
theorem sliceA_H {ti:TI} {H:Heap} {x:AV} {lo hi:Option AV} {r:OV} (h:sliceA T ti H x lo hi=some r):r.H=H∧∀ H2,sliceA T ti H2 x lo hi=some { r with H:=H2 }:=by
 unfold sliceA at h ⊢
 split at h<;>(try split at h)<;>(try split at h)<;>(try split at h)<;>simp only [Option.some.injEq,reduceCtorEq] at h<;>subst h<;>exact ⟨rfl,fun _=>by simp_all⟩
theorem extractA_H {i:Nat} {H:Heap} {x:AV} {r:OV} (h:extractA i H x=some r):r.H=H∧∀ H2,extractA i H2 x=some { r with H:=H2 }:=by
 unfold extractA at h ⊢
 split at h<;>simp only [Option.some.injEq,reduceCtorEq] at h<;>subst h<;>exact ⟨rfl,fun _=>rfl⟩
theorem lenA_H {ti:TI} {H:Heap} {x:AV} {r:OV} (h:lenA ti H x=some r):r.H=H∧∀ H2,lenA ti H2 x=some { r with H:=H2 }:=by
 unfold lenA at h ⊢
 split at h<;>(try split at h)<;>simp only [Option.some.injEq,reduceCtorEq] at h<;>subst h<;>exact ⟨rfl,fun _=>by simp_all⟩
theorem minmaxA_H {f:Int→Int→Int} {H:Heap} {l:List AV} {r:OV} (h:minmaxA f H l=some r):r.H=H∧∀ H2,minmaxA f H2 l=some { r with H:=H2 }:=by
 unfold minmaxA at h ⊢
 split at h<;>simp only [Option.some.injEq,reduceCtorEq] at h<;>subst h<;>exact ⟨rfl,fun _=>rfl⟩
theorem buildA_H {ti:TI} {H:Heap} {l:List (Nat × AV)} {r:OV} (h:buildA T ti H l=some r):r.H=H∧∀ H2,buildA T ti H2 l=some { r with H:=H2 }:=by
 unfold buildA at h ⊢
 split at h<;>(try split at h)<;>(try split at h)<;>simp only [Option.some.injEq,reduceCtorEq] at h<;>subst h<;>exact ⟨rfl,fun _=>by simp_all⟩
theorem buildSliceA_H {ti:TI} {n:Nat} {H:Heap} {l:List (Nat × AV)} {r:OV} (h:buildSliceA T ti H n l=some r):r.H=H∧∀ H2,buildSliceA T ti H2 n l=some { r with H:=H2 }:=by
 unfold buildSliceA at h ⊢
 split at h<;>(try split at h)<;>(try split at h)<;>simp only [Option.some.injEq,reduceCtorEq] at h<;>subst h<;>exact ⟨rfl,fun _=>by simp_all⟩
theorem lookupA_H {ti:TI} {ok:Bool} {H:Heap} {x y:AV} {r:OV} (h:lookupA T ti ok H x y=some r):r.H=H:=by
 unfold lookupA at h
 split at h
 ·split at h
  ·split at h
   ·split at h
    ·simp only [Option.some.injEq] at h
     subst h; rfl
    cases h
   cases h
  cases h
 cases h
theorem loadA_H {ti:TI} {H:Heap} {x:AV} {r:OV} (h:loadA ti H x=some r):r.H=H:=by
 unfold loadA at h
 split at h
 ·split at h
  ·cases hr:isRow ti.kind<;>rw [hr] at h<;>simp only [cond_true,cond_false,Option.some.injEq] at h<;>subst h<;>rfl
  ·cases hr:isRow ti.kind<;>rw [hr] at h<;>simp only [cond_true,cond_false,Option.some.injEq] at h<;>subst h<;>rfl
  ·cases h
  ·cases h
  ·cases h
  cases h
 ·cases hr:isRow ti.kind<;>rw [hr] at h<;>simp only [cond_true,cond_false,Option.some.injEq] at h<;>subst h<;>rfl
 cases h
theorem makeFuncA_H {f:FuncId} {H:Heap} {l:List AV} {r:OV} (h:makeFuncA f H l=some r):r.H=H:=by
 unfold makeFuncA at h
 split at h<;>simp only [Option.some.injEq,reduceCtorEq] at h
 subst h; rfl
theorem opA_congr {s s2:St} {op:Op} (h:∀ x∈op.operands,s2.ev x=s.ev x) (hH:s2.H=s.H):opA T s2 op=opA T s op:=by
 have parts:∀ ps:Array (Nat × Operand),(∀ x∈(ps.toList.map (·.2)).toArray,s2.ev x=s.ev x)→(ps.toList.map fun p=>(p.1,s2.ev p.2))=ps.toList.map fun p=>(p.1,s.ev p.2):=by
  intro ps hp
  apply List.map_congr_left
  intro q hq
  rw [hp q.2 (by simpa using ⟨q.1,by simpa using hq⟩)]
 have opts:∀ o:Option Operand,(∀ x∈o.toArray,s2.ev x=s.ev x)→o.map s2.ev=o.map s.ev:=by
  intro o ho
  cases o with
  | none=>rfl
  | some x=>simp [ho x (by simp)]
 have lists:∀ l:Array Operand,(∀ x∈l,s2.ev x=s.ev x)→l.toList.map s2.ev=l.toList.map s.ev:=by
  intro l hl
  apply List.map_congr_left
  intro x hx
  exact hl x (by simpa using hx)
 cases op<;>simp only [Op.operands] at h
 case call c =>
  obtain ⟨callee,args,ts⟩:=c
  cases callee with
  | builtin b =>
   simp only [opA,hH]
   rw [lists args fun x hx=>h x (by simpa [Call.operands] using hx)]
  | _=>simp [opA]
 case slice t x lo hi mx =>
  cases mx with
  | none =>
   simp only [opA,hH]
   rw [h x (by simp),opts lo fun y hy=>h y (by simp at hy ⊢; simp [hy]),opts hi fun y hy=>h y (by simp at hy ⊢; simp [hy])]
  | some _=>simp [opA]
 case makeFunc fn first caps =>
  cases fn with
  | func f =>
   simp only [opA,hH]
   rw [lists caps fun x hx=>h x (by simp [hx])]
  | _=>simp [opA]
 case makeMap t r =>
  cases r with
  | none=>simp only [opA,hH]
  | some _=>simp [opA]
 case build t ps=>simp only [opA,hH]; rw [parts ps fun x hx=>h x hx]
 case buildSlice t n ps=>simp only [opA,hH]; rw [parts ps fun x hx=>h x hx]
 all_goals simp only [opA,hH]
 all_goals first|rfl|(simp only [List.mem_toArray,List.mem_cons,List.not_mem_nil,or_false,forall_eq_or_imp,forall_eq] at h; simp only [h])
theorem opA_free {s:St} {op:Op} {r:OV} (hT:isT op=false) (h:opA T s op=some r):r.H=s.H∧∀ H2,opA T { s with H:=H2 } op=some { r with H:=H2 }:=by
 have hev:∀ (H2:Heap) (x:Operand),({ s with H:=H2 } : St).ev x=s.ev x:=fun H2 x=>by cases x<;>rfl
 have hev' : ∀ (H2:Heap),({ s with H:=H2 } : St).ev=s.ev:=fun H2=>funext (hev H2)
 cases op<;>simp only [isT,Bool.true_eq_false] at hT
 case call c =>
  obtain ⟨callee,args,ts⟩:=c
  cases callee with
  | builtin b =>
   simp only [opA,hev'] at h ⊢
   cases b<;>simp only [Bool.true_eq_false] at hT
   ·unfold builtinA at h ⊢
    split at h<;>simp only [reduceCtorEq] at *
    rename_i x t
    split at h
    ·exact lenA_H h
    cases h
   ·simp only [builtinA] at h ⊢
    exact minmaxA_H h
   simp only [builtinA] at h ⊢
   exact minmaxA_H h
  | _=>simp [opA] at h
 all_goals simp only [opA,hev'] at h ⊢
 case move=>cases h; exact ⟨rfl,fun _=>rfl⟩
 case assign=>cases h; exact ⟨rfl,fun _=>rfl⟩
 case pick=>exact pickA_H h
 case binOp=>exact binA_H h
 case unOp=>exact unA_H h
 case nilCheck=>exact nilA_H h
 case index =>
  split at h
  ·exact indexA_H h
  cases h
 case convert=>exact convA_H h
 case extract=>exact extractA_H h
 case fieldAddr =>
  split at h
  ·exact fieldAddrA_H h
  cases h
 case field =>
  split at h
  ·rename_i x _ _ _ _
   cases hl:(s.ev x).isAgg<;>rw [hl] at h
   ·cases h
   simp only [cond_true] at h ⊢; exact fieldA_H h
  cases h
 case indexAddr =>
  split at h
  ·exact indexAddrA_H h
  cases h
 case slice t x lo hi mx =>
  cases mx with
  | none =>
   simp only at h ⊢
   split at h
   ·exact sliceA_H h
   cases h
  | some _=>simp at h
 case build =>
  split at h
  ·exact buildA_H h
  cases h
 case buildSlice =>
  split at h
  ·exact buildSliceA_H h
  cases h
theorem opA_calm {s:St} {op:Op} {r:OV} (hW:isW op=false) (h:opA T s op=some r):r.H=s.H:=by
 by_cases hT:isT op=false
 ·exact (opA_free hT h).1
 rw [Bool.not_eq_false] at hT
 cases op<;>simp only [isT,isW,Bool.true_eq_false,Bool.false_eq_true] at hT hW
 case load =>
  simp only [opA] at h
  split at h
  ·exact loadA_H h
  cases h
 case makeFunc fn first caps =>
  cases fn with
  | func f =>
   simp only [opA] at h
   cases hf:first.isEmpty<;>rw [hf] at h
   ·cases h
   exact makeFuncA_H h
  | _=>simp [opA] at h
 case call c =>
  obtain ⟨callee,args,ts⟩:=c
  cases callee with
  | builtin b =>
   simp only [opA] at h
   unfold builtinA at h
   split at h<;>simp_all
  | _=>simp [opA] at h
 case lookup =>
  simp only [opA] at h
  split at h
  ·exact lookupA_H h
  cases h
 all_goals simp [opA] at h
theorem opA_loc (hT:∀ t ti,T t=some ti→tiOf P t=some ti) {o:Oper} {s:St} {r:OV} (h:opA T s o.op=some r) (hvc:r.vc):Loc1 P o s r.av r.H:=by
 refine ⟨fun s2 hn ha hH=>?_,fun hf=>⟨(opA_free hf h).1,fun s2 hn ha=>?_⟩,fun hw=>opA_calm hw h⟩
 ·have:=opA_congr (T:=T) ha hH
  rw [h] at this
  exact (opA_does hT this hvc).wp
 have h1:=(opA_free hf h).2 s2.H
 have:=opA_congr (T:=T) (s:={ s with H:=s2.H }) (s2:=s2) (op:=o.op) (fun x hx=>by rw [ha x hx]; cases x<;>rfl) rfl
 rw [h1] at this
 exact (opA_does hT this hvc).wp
inductive X where
 | run (vc:Prop) (s:St)
 | stop (vc:Prop) (rest:List Oper) (s:St)
def dstOk (s:St):Option Tmp→Prop
 | none=>True
 | some t=>t < s.n
def after (o:Oper) (s:St) (r:OV):St:=({ s with H:=r.H } : St).put o.dst r.av
def xstep (T:TypeId→Option TI) (all:Array Oper) (o:Oper) (rest:List Oper) (vc:Prop) (s:St):X:=
 match guardA all s o with
 | some true =>
  match opA T s o.op with
  | some r=>.run (vc∧dstOk s o.dst∧r.vc) (after o s r)
  | none=>.stop vc (o :: rest) s
 | some false=>.run (vc∧dstOk s o.dst) (s.put o.dst (.p (.tup [])))
 | none=>.stop vc (o :: rest) s
def aops (T:TypeId→Option TI) (all:Array Oper):List Oper→X→X
 | [],x=>x
 | o :: r,.run vc s=>aops T all r (xstep T all o r vc s)
 | _ :: _,.stop vc rest s=>.stop vc rest s
def Runs (P:Program) (draw:Bool) (all:Array Oper) (rest:List Oper) (K:St→Prop) (s:St):Prop:=∃ s',Run1 P draw all rest s s'∧K s'
def fin (P:Program) (draw:Bool) (all:Array Oper) (K:St→Prop):X→Prop
 | .run vc s=>vc∧K s
 | .stop vc rest s=>vc∧Runs P draw all rest K s
theorem dstOk_spec {s:St} {d:Option Tmp} (h:dstOk s d):∀ t,d=some t→t < s.n:=by
 rintro t rfl; exact h
theorem aops_stop (all:Array Oper) (l:List Oper) (vc:Prop) (rest:List Oper) (s:St):aops T all l (.stop vc rest s) = .stop vc rest s:=by cases l<;>rfl
theorem aops_sound (hT:∀ t ti,T t=some ti→tiOf P t=some ti) {draw:Bool} {all:Array Oper} {K:St→Prop} : ∀ (ops:List Oper) (vc:Prop) (s:St),fin P draw all K (aops T all ops (.run vc s))→vc∧Runs P draw all ops K s
 | [],vc,s,h=>⟨h.1,s,.nil s,h.2⟩
 | o :: r,vc,s,h=>by
  simp only [aops,xstep] at h
  split at h
  ·rename_i hg
   split at h
   ·rename_i ov hov
    obtain ⟨⟨h1,h2,h3⟩,s',hr,hK⟩:=aops_sound hT r _ _ h
    exact ⟨h1,s',.cons (.op s ov.av ov.H hg (dstOk_spec h2) (opA_does hT hov h3).wp fun _=>opA_loc hT hov h3) hr,hK⟩
   rw [aops_stop] at h; exact h
  ·rename_i hg
   obtain ⟨⟨h1,h2⟩,s',hr,hK⟩:=aops_sound hT r _ _ h
   exact ⟨h1,s',.cons (.skip s hg (dstOk_spec h2)) hr,hK⟩
  rw [aops_stop] at h; exact h
theorem runs_eval (hT:∀ t ti,T t=some ti→tiOf P t=some ti) {draw:Bool} {all:Array Oper} {rest:List Oper} {K:St→Prop} {s:St} (h:fin P draw all K (aops T all rest (.run True s))):Runs P draw all rest K s:=
 (aops_sound hT rest True s h).2
end
end Go.Pv
namespace Go.Pv
open Go.RowKit
def Holds (P:Program) (c:Code) (Q:Exit→St→Prop) (s:St):Prop:=
 ∀ (r:Option Nat) (ds:List Deferred) C m (a:Act) w,Rel C m s a.tmps w→a.defers=ds→wpR r P c (fun e a' w'=>∃ s' m',Q e s'∧Rel C m' s' a'.tmps w'∧a'.defers=ds) a w
def Thn (K:St→Prop) (Q:Exit→St→Prop):Exit→St→Prop
 | .normal,s=>K s
 | e,s=>Q e s
def InB (id:Nat) (Q:Exit→St→Prop):Exit→St→Prop
 | .exit j,s=>if j=id then Q .normal s else Q (.exit j) s
 | e,s=>Q e s
section
variable {P:Program} {Q:Exit→St→Prop} {s:St}
theorem thn_n {K:St→Prop} (h:K s):Thn K Q .normal s:=h
theorem thn_r {K:St→Prop} (h:Q .ret s):Thn K Q .ret s:=h
theorem thn_x {K:St→Prop} {id:Nat} (h:Q (.exit id) s):Thn K Q (.exit id) s:=h
theorem inb_n {id:Nat} (h:Q .normal s):InB id Q .normal s:=h
theorem inb_r {id:Nat} (h:Q .ret s):InB id Q .ret s:=h
theorem inb_x {id:Nat} (h:Q .normal s):InB id Q (.exit id) s:=by simp only [InB,if_true]; exact h
theorem hk_seq {x y:Code} (h:Holds P x (Thn (Holds P y Q) Q) s):Holds P (.seq x y) Q s:=by
 intro r ds C m a w R hd
 refine wpR_seq (wpR_mono (h r ds C m a w R hd) fun e a' w' ⟨s',m',h1,h2,h3⟩=>?_)
 cases e with
 | normal=>exact h1 r ds C m' a' w' h2 h3
 | _=>exact ⟨s',m',h1,h2,h3⟩
theorem hk_block {id:Nat} {c:Code} (h:Holds P c (InB id Q) s):Holds P (.block id c) Q s:=by
 intro r ds C m a w R hd
 refine wpR_block (wpR_mono (h r ds C m a w R hd) fun e a' w' ⟨s',m',h1,h2,h3⟩=>?_)
 cases e with
 | exit j =>
  simp only [InB,Exit.inBlock] at h1 ⊢
  by_cases e:j=id
  ·rw [if_pos e] at h1 ⊢; exact ⟨s',m',h1,h2,h3⟩
  rw [if_neg e] at h1 ⊢; exact ⟨s',m',h1,h2,h3⟩
 | _=>exact ⟨s',m',h1,h2,h3⟩
theorem hk_skip (h:Q .normal s):Holds P .skip Q s:=fun _ _ _ m _ _ R hd=>wpR_skip ⟨s,m,h,R,hd⟩
theorem hk_exit {id:Nat} (h:Q (.exit id) s):Holds P (.exit id) Q s:=fun _ _ _ m _ _ R hd=>wpR_exit ⟨s,m,h,R,hd⟩
theorem hk_ret (h:Q .ret s):Holds P .ret Q s:=fun _ _ _ m _ _ R hd=>wpR_ret ⟨s,m,h,R,hd⟩
def testA (s:St) (c:Operand):Option Bool:=
 match s.ev c with
 | .p (.bool b)=>some b
 | _=>none
theorem hk_cond {c:Operand} {x y:Code} {b:Bool} (hc:testA s c=some b) (hx:b=true→Holds P x Q s) (hy:b=false→Holds P y Q s):Holds P (.cond c x y) Q s:=by
 intro r ds C m a w R hd
 have he:a.eval c = .bool b:=by
  have:=R.ev c
  unfold testA at hc
  split at hc<;>simp only [Option.some.injEq,reduceCtorEq] at hc
  rename_i b' hb
  rw [hb] at this
  rw [← hc]
  exact this.p_inv.bool_inv
 exact wpR_cond_split he (fun h=>hx h r ds C m a w R hd) (fun h=>hy h r ds C m a w R hd)
theorem hk_region {id:Nat} {l:List Oper} (h:∀ K:St→Prop,(∀ s',Q .normal s'→K s')→Runs P false l.toArray l K s):Holds P (.region id l.toArray false) Q s:=by
 intro r ds C m a w R hd
 obtain ⟨s',hr,hK⟩:=h (Q .normal) fun _ h=>h
 exact wpR_region_lit (hr.sound R hd fun m' a' w' R' hd'=>⟨s',m',hK,R',hd'⟩)
def noGW (l:List Oper):Bool:=l.all fun o=>o.guard.isNone || !isW o.op
theorem hk_draw {id:Nat} {l:List Oper} (hm:P.follows .mixedOrders=true) (hok:(drawOK l.toArray && noGW l)=true) (h:∀ K:St→Prop,(∀ s',Q .normal s'→K s')→Runs P true l.toArray l K s):Holds P (.region id l.toArray true) Q s:=by
 intro r ds C m a w R hd
 rw [Bool.and_eq_true] at hok
 obtain ⟨s',hr,hK⟩:=h (Q .normal) fun _ h=>h
 refine wpR_region_any hm ?_
 refine draw_sound hok.1 (fun o ho hg=>?_) hr (R.later ⟨rfl,rfl,rfl,Nat.le_refl _,fun _ _=>rfl,Nat.le_succ _⟩) hd fun m' a' w' R' hd'=>⟨s',m',hK,R',hd'⟩
 have:=(List.all_eq_true.1 hok.2) o ho
 cases hgu:o.guard with
 | none=>exact absurd hgu hg
 | some g=>rw [hgu] at this; simpa using this
def sc1 (n:Nat):AV→Bool
 | .sl k _ _=>k < n
 | .ptr k _=>k < n
 | .mptr k=>k < n
 | .sls k _ _ _=>k < n
 | .agg _=>false
 | .tup _=>false
 | .cl _ _=>false
 | .yv _ _ _=>false
 | _=>true
def scA (n:Nat):AV→Bool
 | .agg l=>l.all (sc1 n)
 | .tup l=>l.all (sc1 n)
 | .cl _ l=>l.all (sc1 n)
 | .yv k l _=>decide (k < n) && l.all (sc1 n)
 | x=>sc1 n x
def ren1 (π:List Nat):AV→AV
 | .sl k lo len=>.sl (π.getD k 0) lo len
 | .ptr k i=>.ptr (π.getD k 0) i
 | .mptr k=>.mptr (π.getD k 0)
 | .sls k lo len sz=>.sls (π.getD k 0) lo len sz
 | x=>x
def ren (π:List Nat):AV→AV
 | .agg l=>.agg (l.map (ren1 π))
 | .tup l=>.tup (l.map (ren1 π))
 | .cl f l=>.cl f (l.map (ren1 π))
 | .yv k l vs=>.yv (π.getD k 0) (l.map (ren1 π)) vs
 | x=>ren1 π x
def LeS (π:List Nat):List (Nat × AV)→St→Prop
 | [],_=>True
 | (t,x) :: r,s=>s.get t=ren π x∧scA π.length x=true∧LeS π r s
def LeB (π:List Nat) (H:Heap) (k:Nat):Blk→Prop
 | .dead=>True
 | .own c=>(match hget H k with | .own d=>c.map (ren π)=d.take c.length∧c.all (scA π.length)=true | _=>False)
 | .fro c=>hget H k = .fro c
 | .mp kk d v=>hget H k = .mp kk d v
 | .lp r=>hget H k = .lp r
 | .anc i j=>hget H k = .anc i (π.getD j 0)∧j < π.length
def LeH (π:List Nat) (H:Heap):List Nat→Heap→Prop
 | [],[]=>True
 | k :: ks,b :: r=>LeB π H k b∧LeH π H ks r
 | _,_=>False
def Le (π:List Nat) (s1 s:St):Prop:=s1.n=s.n∧π.Nodup∧LeH π s.H π s1.H∧LeS π s1.sl s
theorem LeS.get {π:List Nat} : ∀ {l:List (Nat × AV)} {s:St},LeS π l s→∀ t,lk l t = .dead∨(s.get t=ren π (lk l t)∧scA π.length (lk l t)=true)
 | [],s,_,t=>.inl rfl
 | (i,x) :: r,s,h,t=>by
  simp only [lk]
  cases e:(i == t)
  ·simp only [cond_false]; exact LeS.get h.2.2 t
  simp only [cond_true]
  have:i=t:=by simpa using e
  subst this
  exact .inr ⟨h.1,h.2.1⟩
theorem LeH.get {π:List Nat} {H:Heap} : ∀ {ks:List Nat} {H1:Heap},LeH π H ks H1→ks.length=H1.length∧∀ (k:Nat) (b:Blk),H1[k]? = some b→∃ k',ks[k]? = some k'∧LeB π H k' b
 | [],[],_=>⟨rfl,fun k b h=>by simp at h⟩
 | k0 :: ks,b0 :: r,h=>by
  obtain ⟨h1,h2⟩:=LeH.get h.2
  refine ⟨by simp [h1],fun k b hk=>?_⟩
  cases k with
  | zero=>simp at hk; subst hk; exact ⟨k0,rfl,h.1⟩
  | succ k=>simpa using h2 k b (by simpa using hk)
 | [],_ :: _,h=>h.elim
 | _ :: _,[],h=>h.elim
def mren (m:Map) (π:List Nat):Map:=fun k=>(π[k]?).bind m
theorem AVal.unren1 {rd rd' : PV→Value→Prop} {m:Map} {H H1:Heap} {π:List Nat} (h1:∀ p v,rd p v→rd' p v) (hl1:H1.length=π.length) {x:AV} {v:Value} (h:AVal rd m H (ren1 π x) v) (hs:sc1 π.length x=true):AVal rd' (mren m π) H1 x v:=by
 cases x with
 | dead=>exact .dead v
 | p pv=>exact .p pv v (h1 _ _ h.p_inv)
 | sl k lo len =>
  have hk:k < π.length:=by simpa [sc1] using hs
  simp only [ren1,List.getD_eq_getElem?_getD,List.getElem?_eq_getElem hk,Option.getD_some] at h
  cases h with
  | sl _ _ _ _ _ h =>
   refine .sl k lo len v (by omega) ?_
   unfold SlOk mren at *
   rw [List.getElem?_eq_getElem hk]
   exact h
 | ptr k i =>
  have hk:k < π.length:=by simpa [sc1] using hs
  simp only [ren1,List.getD_eq_getElem?_getD,List.getElem?_eq_getElem hk,Option.getD_some] at h
  cases h with
  | ptr _ _ _ _ h =>
   refine .ptr k i v (by omega) ?_
   unfold PtrOk mren at *
   rw [List.getElem?_eq_getElem hk]
   exact h
 | agg l=>simp [sc1] at hs
 | tup l=>simp [sc1] at hs
 | cl f l=>simp [sc1] at hs
 | itv r=>cases h; exact .itv r
 | sls k lo len sz =>
  have hk:k < π.length:=by simpa [sc1] using hs
  simp only [ren1,List.getD_eq_getElem?_getD,List.getElem?_eq_getElem hk,Option.getD_some] at h
  cases h with
  | sls _ _ _ _ _ _ h =>
   refine .sls k lo len sz v (by omega) ?_
   unfold SlsOk mren at *
   rw [List.getElem?_eq_getElem hk]
   exact h
 | mptr k =>
  have hk:k < π.length:=by simpa [sc1] using hs
  simp only [ren1,List.getD_eq_getElem?_getD,List.getElem?_eq_getElem hk,Option.getD_some] at h
  cases h with
  | mptr _ _ _ h =>
   refine .mptr k v (by omega) ?_
   unfold MptrOk mren at *
   rw [List.getElem?_eq_getElem hk]
   exact h
 | yv k l vs=>simp [sc1] at hs
theorem AVal.unren {rd rd' : PV→Value→Prop} {m:Map} {H H1:Heap} {π:List Nat} (h1:∀ p v,rd p v→rd' p v) (hl1:H1.length=π.length) {x:AV} {v:Value} (h:AVal rd m H (ren π x) v) (hs:scA π.length x=true):AVal rd' (mren m π) H1 x v:=by
 cases x with
 | agg l =>
  simp only [ren,scA] at h hs
  cases h with
  | agg _ vs hl hr =>
   refine .agg l vs (by simpa using hl) fun c hc=>?_
   have:=hr c (by simpa using hc)
   rw [List.getElem_map] at this
   exact this.unren1 h1 hl1 ((List.all_eq_true.1 hs) _ (List.getElem_mem hc))
 | tup l =>
  simp only [ren,scA] at h hs
  cases h with
  | tup _ vs hl hr =>
   refine .tup l vs (by simpa using hl) fun c hc=>?_
   have:=hr c (by simpa using hc)
   rw [List.getElem_map] at this
   exact this.unren1 h1 hl1 ((List.all_eq_true.1 hs) _ (List.getElem_mem hc))
 | cl f l =>
  simp only [ren,scA] at h hs
  cases h with
  | cl _ _ vs hl hr =>
   refine .cl f l vs (by simpa using hl) fun c hc=>?_
   have:=hr c (by simpa using hc)
   rw [List.getElem_map] at this
   exact this.unren1 h1 hl1 ((List.all_eq_true.1 hs) _ (List.getElem_mem hc))
 | yv k l vs =>
  simp only [ren,scA,Bool.and_eq_true,decide_eq_true_eq] at h hs
  obtain ⟨hk,hs⟩:=hs
  simp only [List.getD_eq_getElem?_getD,List.getElem?_eq_getElem hk,Option.getD_some] at h
  cases h with
  | yv _ _ _ _ _ h hl hr =>
   refine .yv k l vs v (by omega) ?_ (by simpa using hl) fun c hc=>?_
   ·unfold YvOk mren at *
    rw [List.getElem?_eq_getElem hk]
    exact h
   have:=hr c (by simpa using hc)
   rw [List.getElem_map] at this
   exact this.unren1 h1 hl1 ((List.all_eq_true.1 hs) _ (List.getElem_mem hc))
 | dead=>exact .dead v
 | p pv=>exact AVal.unren1 h1 hl1 h hs
 | sl k lo len=>exact AVal.unren1 h1 hl1 h hs
 | ptr k i=>exact AVal.unren1 h1 hl1 h hs
 | mptr k=>exact AVal.unren1 h1 hl1 h hs
 | itv r=>exact AVal.unren1 h1 hl1 h hs
 | sls k lo len sz=>exact AVal.unren1 h1 hl1 h hs
def Blk.wr:Blk→Bool
 | .own _=>true
 | .mp _ _ _=>true
 | .lp _=>true
 | _=>false
theorem LeH.own {π:List Nat} {H H1:Heap} (g2:∀ (k:Nat) (b:Blk),H1[k]? = some b→∃ k',π[k]? = some k'∧LeB π H k' b):∀ (k:Nat) (c:List AV),H1[k]? = some (Blk.own c)→∃ (k' : Nat) (d:List AV),π[k]? = some k'∧H[k']? = some (Blk.own d)∧c.all (scA π.length)=true∧c.map (ren π)=d.take c.length:=by
 intro k c hk
 obtain ⟨k',a,b⟩:=g2 k _ hk
 unfold LeB at b
 simp only at b
 split at b
 ·rename_i d hd
  exact ⟨k',d,a,hget_mut hd,b.2,b.1⟩
 exact b.elim
theorem OK.weaken {C:Ctx} {m:Map} {H H1:Heap} {π:List Nat} {w:World} (h3:LeH π H π H1):∀ b,OK C m H w b→OK C (mren m π) H1 w b:=by
 refine fun b hb=>⟨hb.1,hb.2.1,fun k c l hk hl=>?_⟩
 obtain ⟨k',d,a1,a2,a3,_⟩:=LeH.own (h3.get).2 k c hk
 simp only [mren,a1,Option.bind_some] at hl
 exact hb.2.2 k' _ l a2 hl
theorem Rel.weakenC {C C' : Ctx} {m:Map} {s1:St} {π:List Nat} {tmps tmps' : Array Value} {w:World} (R:Rel C m s tmps w) (e1:tmps'.size=s1.n) (hnd:π.Nodup) (h3:LeH π s.H π s1.H) (ho:∀ b,OK C m s.H w b→OK C' (mren m π) s1.H w b)
  (hbel:BelowP C'.B C'.w0 w) (hbase:∀ b,w.heap.size≤b→C'.B b) (hB:∀ (k:Nat) (b:Blk) (l:Loc),s1.H[k]? = some b→b.wr=true→mren m π k=some l→C.B l.g→C'.B l.g)
  (hanc:∀ (k i j:Nat),s1.H[k]? = some (Blk.anc i j)→j < s1.H.length∧mren m π j=C'.anc i) (hslot:∀ t,AVal (Reads (OK C' (mren m π) s1.H w) w) (mren m π) s1.H (s1.get t) (tmps'.getD t undef)):Rel C' (mren m π) s1 tmps' w:=by
 obtain ⟨g1,g2⟩:=h3.get
 have own:=LeH.own g2
 have hr:∀ p v,Reads (OK C m s.H w) w p v→Reads (OK C' (mren m π) s1.H w) w p v:=fun p v h=>h.mono ho
 have mps:∀ (k:Nat) (kk:IntKind) (d:Int→Bool) (v:Int→PV),s1.H[k]? = some (Blk.mp kk d v)→∃ k',π[k]? = some k'∧s.H[k']? = some (Blk.mp kk d v):=by
  intro k kk d v hk
  obtain ⟨k',a,b⟩:=g2 k _ hk
  exact ⟨k',a,hget_some b (by simp)⟩
 refine ⟨R.laid.ext hr,hbel,hbase,e1,?_,?_,?_,hslot,fun k kk d v hk=>?_,fun k k' kk d v kk' d' v' l l' h1 h2 h3 h4 h5=>?_,hanc,?_⟩
 rotate_left 5
 ·have lps:∀ (k:Nat) (r:Loop),s1.H[k]? = some (Blk.lp r)→∃ k',π[k]? = some k'∧s.H[k']? = some (Blk.lp r):=by
   intro k r hk
   obtain ⟨k',a,b⟩:=g2 k _ hk
   exact ⟨k',a,hget_some b (by simp)⟩
  refine R.mp.2.2.2.ext (fun k=>π.getD k 0) (fun k r h=>?_) (fun k k' r r' h1 h2 e=>?_) (fun _ _ _ _ _ _=>rfl) fun k r l h hl h2=>hB k _ l h rfl hl h2
  ·obtain ⟨k',a1,a2⟩:=lps k r h
   have e:π.getD k 0=k':=by simp [List.getD,a1]
   exact ⟨by simp only [e]; exact a2,by simp only [mren,a1,Option.bind_some,e]⟩
  obtain ⟨j,a1,_⟩:=lps k r h1
  obtain ⟨j',b1,_⟩:=lps k' r' h2
  simp only [List.getD,a1,b1,Option.getD_some] at e
  obtain ⟨hk,hk2⟩:=List.getElem?_eq_some_iff.1 a1
  obtain ⟨hk',hk2'⟩:=List.getElem?_eq_some_iff.1 b1
  have hp:=List.pairwise_iff_getElem.1 hnd
  rcases Nat.lt_trichotomy k k' with h | h | h
  ·exact absurd (hk2.trans (e.trans hk2'.symm)) (hp k k' hk hk' h)
  ·exact h
  exact absurd (hk2'.trans (e.symm.trans hk2.symm)) (hp k' k hk' hk h)
 rotate_left 3
 ·obtain ⟨j,b1,b2⟩:=mps k kk d v hk
  have hm:mren m π k=m j:=by simp only [mren,b1,Option.bind_some]
  obtain ⟨l,ar,clk,vs,a1,a2,a3,a4,a5,a6,a7⟩:=R.mp.1 j kk d v b2
  exact ⟨l,ar,clk,vs,by rw [hm]; exact a1,hB k _ l hk rfl (by rw [hm]; exact a1) a2,a3,a4,a5,a6,fun z hz=>hr _ _ (a7 z hz)⟩
 ·obtain ⟨j,b1,b2⟩:=mps _ _ _ _ h1
  obtain ⟨j',c1,c2⟩:=mps _ _ _ _ h2
  simp only [mren,b1,c1,Option.bind_some] at h3 h4
  have:=R.mp.2.1 _ _ _ _ _ _ _ _ _ _ b2 c2 h3 h4 h5
  subst this
  obtain ⟨hk,hk2⟩:=List.getElem?_eq_some_iff.1 b1
  obtain ⟨hk',hk2'⟩:=List.getElem?_eq_some_iff.1 c1
  have hp:=List.pairwise_iff_getElem.1 hnd
  rcases Nat.lt_trichotomy k k' with h | h | h
  ·exact absurd (hk2.trans hk2'.symm) (hp k k' hk hk' h)
  ·exact h
  exact absurd (hk2'.trans hk2.symm) (hp k' k hk' hk h)
 ·intro k k' c c' l l' a1 a2 a3 a4 a5
  obtain ⟨j,_,b1,b2,_⟩:=own k c a1
  obtain ⟨j',_,b1',b2',_⟩:=own k' c' a2
  simp only [mren,b1,b1',Option.bind_some] at a3 a4
  have:=R.inj j j' _ _ l l' b2 b2' a3 a4 a5
  subst this
  obtain ⟨hk,hk2⟩:=List.getElem?_eq_some_iff.1 b1
  obtain ⟨hk',hk2'⟩:=List.getElem?_eq_some_iff.1 b1'
  have hp:=List.pairwise_iff_getElem.1 hnd
  rcases Nat.lt_trichotomy k k' with h | h | h
  ·exact absurd (hk2.trans hk2'.symm) (hp k k' hk hk' h)
  ·exact h
  exact absurd (hk2'.trans hk2.symm) (hp k' k hk' hk h)
 ·intro k c hk
  obtain ⟨k',d,a1,a2,hsc,hcd⟩:=own k c hk
  have hm:mren m π k=m k':=by simp only [mren,a1,Option.bind_some]
  have hlen:c.length≤d.length:=by
   have:=congrArg List.length hcd
   simp only [List.length_map,List.length_take] at this
   omega
  rcases R.blk k' _ a2 with ⟨hc,hn⟩ | ⟨l,cur,e,b1,b2,b3,b4,b5,b6,b7⟩
  ·subst hc
   exact .inl ⟨List.eq_nil_of_length_eq_zero (by simpa using hlen),by rw [hm]; exact hn⟩
  refine .inr ⟨l,cur,e,by rw [hm]; exact b1,hB k _ l hk rfl (by rw [hm]; exact b1) b2,b3,b4,b5,by omega,fun j hj=>?_⟩
  have:=b7 j (by omega)
  have e:d[j]'(by omega)=ren π c[j]:=by
   have h3:(c.map (ren π))[j]? = (d.take c.length)[j]?:=by rw [hcd]
   rw [List.getElem?_map,List.getElem?_eq_getElem hj,List.getElem?_take,if_pos hj,List.getElem?_eq_getElem (by omega)] at h3
   simpa using h3.symm
  rw [e] at this
  exact this.unren hr g1.symm ((List.all_eq_true.1 hsc) _ (List.getElem_mem hj))
 intro k c hk
 obtain ⟨k',a,b⟩:=g2 k _ hk
 have hm:mren m π k=m k':=by simp only [mren,a,Option.bind_some]
 rcases (R.fro k' c (hget_fro b)).ext (m':=m) ho (fun _ _=>rfl) rfl with ⟨e1,e2⟩ | ⟨l,vs,e1,e2⟩
 ·exact .inl ⟨e1,by rw [hm]; exact e2⟩
 exact .inr ⟨l,vs,by rw [hm]; exact e1,e2⟩
theorem Rel.weaken {C:Ctx} {m:Map} {s1:St} {π:List Nat} {tmps:Array Value} {w:World} (R:Rel C m s tmps w) (h:Le π s1 s):Rel C (mren m π) s1 tmps w:=by
 obtain ⟨e1,hnd,h3,h2⟩:=h
 have ho:=OK.weaken (C:=C) (m:=m) (w:=w) h3
 obtain ⟨g1,g2⟩:=h3.get
 refine R.weakenC (by rw [e1]; exact R.size) hnd h3 ho R.below R.base (fun _ _ _ _ _ _ h=>h) (fun k i j hk=>?_) fun t=>?_
 ·obtain ⟨k',a,b⟩:=g2 k _ hk
  unfold LeB at b
  simp only at b
  obtain ⟨b1,b2⟩:=b
  obtain ⟨_,c2⟩:=R.mp.2.2.1 k' i _ (hget_some b1 (by simp))
  refine ⟨by omega,?_⟩
  rw [← c2]
  simp only [mren,List.getElem?_eq_getElem b2,Option.bind_some,List.getD_eq_getElem?_getD,Option.getD_some]
 rcases h2.get t with e | ⟨e,hsc⟩
 ·unfold St.get; rw [e]; exact .dead _
 have:=R.slot t
 rw [e] at this
 exact this.unren (fun p v h=>h.mono ho) g1.symm hsc
theorem hk_le {c:Code} {s1:St} (π:List Nat) (hle:Le π s1 s) (h:Holds P c Q s1):Holds P c Q s:=
 fun r ds C m a w R hd=>h r ds C _ a w (R.weaken hle) hd
theorem hk_loop {c:Code} {ι:Type} (S:ι→St) (I:ι→Prop) (μ:ι→Nat) (i0:ι) (h0:I i0) (π:List Nat) (hs:Le π (S i0) s)
  (step:∀ i,I i→Holds P c (Thn (fun s'=>∃ j π,I j∧μ j < μ i∧Le π (S j) s') Q) (S i)):Holds P (.loop c) Q s:=by
 intro r ds C m a w R hd
 let good:Nat→Act→World→Prop:=fun n a w=>∃ i m,I i∧μ i=n∧Rel C m (S i) a.tmps w∧a.defers=ds
 have least:∀ (p:Nat→Prop),(∃ n,p n)→∃ n,p n∧∀ k,p k→n≤k:=by
  intro p ⟨n,hn⟩
  induction n using Nat.strongRecOn with
  | _ n ih =>
   by_cases h:∃ k,k < n∧p k
   ·obtain ⟨k,hk,hp⟩:=h; exact ih k hk hp
   exact ⟨n,hn,fun k hp=>Nat.le_of_not_lt fun hk=>h ⟨k,hk,hp⟩⟩
 have hex:∀ a w,∃ n,(∃ k,good k a w)→good n a w∧∀ k,good k a w→n≤k:=by
  intro a w
  by_cases h:∃ k,good k a w
  ·obtain ⟨n,h1,h2⟩:=least _ h; exact ⟨n,fun _=>⟨h1,h2⟩⟩
  exact ⟨0,fun h'=>absurd h' h⟩
 let ms:Act→World→Nat:=fun a w=>Classical.choose (hex a w)
 have hms:∀ a w,(∃ k,good k a w)→good (ms a w) a w∧∀ k,good k a w→ms a w≤k:=fun a w=>Classical.choose_spec (hex a w)
 refine wpR_loop (fun a w=>∃ k,good k a w) ms ⟨μ i0,i0,_,h0,rfl,R.weaken hs,hd⟩ fun a w hg=>?_
 obtain ⟨⟨i,m,hI,hμ,R,hd⟩,_⟩:=hms a w hg
 refine wpR_mono (step i hI r ds C m a w R hd) fun e a' w' ⟨s',m',h1,h2,h3⟩=>?_
 cases e with
 | normal =>
  obtain ⟨j,π',hJ,hlt,hle⟩:=h1
  have hg' : good (μ j) a' w':=⟨j,_,hJ,rfl,h2.weaken hle,h3⟩
  exact ⟨⟨_,hg'⟩,by have:=(hms a' w' ⟨_,hg'⟩).2 _ hg'; rw [hμ] at hlt; omega⟩
 | _=>exact ⟨s',m',h1,h2,h3⟩
end
end Go.Pv
namespace Go.Pv
open Go.RowKit
def peekS (H:Heap):AV→Option (Prop × PV × Bool)
 | .p v=>some (True,v,true)
 | .sl k lo len =>
  match hget H k with
  | .own c =>
   match allP ((c.drop lo).take len) with
   | some ps=>some (lo + len≤c.length∧ps.all PV.one=true,.list ps,false)
   | none=>none
  | .fro c=>some (lo + len≤c.length∧((c.drop lo).take len).all PV.one=true,.list ((c.drop lo).take len),true)
  | .dead=>none
  | .mp _ _ _=>none
  | .anc _ _=>none
  | .lp _=>none
 | .ptr k i =>
  match hget H k with
  | .fro c=>some (i≤c.length,.ptr (c.drop i),true)
  | .own c =>
   match allP (c.drop i) with
   | some ps=>some (i≤c.length,.ptr ps,false)
   | none=>none
  | .dead=>none
  | .mp _ _ _=>none
  | .anc _ _=>none
  | .lp _=>none
 | _=>none
def peekList (f:AV→Option (Prop × PV × Bool)):List AV→Option (Prop × List PV × Bool)
 | []=>some (True,[],true)
 | x :: r =>
  match f x,peekList f r with
  | some (p,v,b),some (q,l,c)=>some (p∧q,v :: l,b && c)
  | _,_=>none
def peekG (H:Heap):AV→Option (Prop × PV × Bool)
 | .agg l=>match peekList (peekS H) l with | some (p,ps,b)=>some (p,.agg ps,b) | none=>none
 | .cl f l=>match peekList (peekS H) l with | some (p,ps,b)=>some (p,.fn f ps,b) | none=>none
 | x=>peekS H x
def peekA (H:Heap):AV→Option (Prop × PV × Bool)
 | .tup l=>match peekList (peekG H) l with | some (p,ps,b)=>some (p,.tup ps,b) | none=>none
 | x=>peekG H x
section
variable {P:Program} {T:TypeId→Option TI} {C:Ctx} {m:Map} {s:St} {tmps:Array Value} {w:World}
def okN (okA:Nat→Prop) (w w' : World) (b:Nat):Prop:=(okA b∨w.heap.size≤b)∧b < w'.heap.size
def fresh (okA:Nat→Prop) (w:World):Ctx:=⟨okA,fun b=>w.heap.size≤b,w,fun _=>none⟩
def okE (C:Ctx) (w:World) (b:Nat):Prop:=(C.okA b∨C.B b)∧b < w.heap.size
def Peeks (C:Ctx) (m:Map) (H:Heap) (w:World) (pv:PV) (b:Bool) (v:Value):Prop:=Reads (okE C w) w pv v∧(b=true→Reads (OK C m H w) w pv v)
theorem ok_okE {H:Heap} (b:Nat) (h:OK C m H w b):okE C w b:=⟨h.1,h.2.1⟩
theorem Peeks.of {H:Heap} {pv:PV} {b:Bool} {v:Value} (h:Reads (OK C m H w) w pv v):Peeks C m H w pv b v:=⟨h.mono (fun b hb=>ok_okE b hb),fun _=>h⟩
theorem row_reads {ok:Nat→Prop} {ps:List PV} {g o len cap:Nat} (hl:ps.length=len) (hone:ps.all PV.one=true) (hok:ok g) (hcap:len≤cap) (vs:Nat→Value)
  (hc:∀ j,j < len→w.cell? ⟨g,o + j,none⟩=some (vs j)) (hr:∀ j (h:j < ps.length),Reads ok w ps[j] (vs j)):Reads ok w (.list ps) (.slice (some ⟨g,o,none⟩) len cap):=by
 subst hl
 have hf:=flat_all_one hone
 refine .list ps g o cap 1 vs hok (fun x hx=>?_) hcap (fun c hcl=>?_) fun c hcl=>?_
 ·rw [cells_one ((List.all_eq_true.1 hone) x hx)]; rfl
 ·rw [hf] at hcl; exact hc c hcl
 simp only [hf] at hcl ⊢; exact hr c hcl
theorem peekS_val (R:Rel C m s tmps w) {x:AV} {v:Value} (hv:AVal (Reads (OK C m s.H w) w) m s.H x v) {p:Prop} {pv:PV} {b:Bool} (h:peekS s.H x=some (p,pv,b)) (hp:p):Peeks C m s.H w pv b v:=by
 unfold peekS at h
 split at h
 ·simp only [Option.some.injEq,Prod.mk.injEq] at h
  obtain ⟨_,rfl,rfl⟩:=h
  exact .of hv.p_inv
 ·rename_i k lo len
  cases hv with
  | sl _ _ _ _ hk hs =>
   split at h
   ·rename_i c hg
    split at h<;>simp only [Option.some.injEq,Prod.mk.injEq,reduceCtorEq] at h
    rename_i ps hps
    obtain ⟨rfl,rfl,rfl⟩:=h
    obtain ⟨h1,h2⟩:=hp
    have hcs:=allP_some hps
    have hlen:ps.length=len:=by
     have:=congrArg List.length hcs
     simp only [List.length_take,List.length_drop,List.length_map] at this
     omega
    refine ⟨?_,fun h=>by cases h⟩
    rcases hs with ⟨rfl,ad,rfl⟩ | ⟨l,cap,hm,rfl,hc1,hc2⟩
    ·have:ps=[]:=List.eq_nil_of_length_eq_zero hlen
     subst this
     exact .list0 _ _ fun _=>rfl
    rcases R.blk k c (hget_mut hg) with ⟨_,hn⟩ | ⟨l',cur,e,hm2,hB,hh,hs1,hs3,hs2,hcells⟩
    ·rw [hm] at hn; cases hn
    rw [hm] at hm2; cases hm2
    refine row_reads hlen h2 ⟨.inr hB,(Array.getElem?_eq_some_iff.1 hh).1⟩ hc1 (fun j=>cur.getD (l.o + (lo + j)) undef) (fun j hj=>?_) fun j hj=>?_
    ·rw [Nat.add_assoc]; exact cell_of hh (by omega)
    have:=hcells (lo + j) (by omega)
    have e:c[lo + j]'(by omega) = .p ps[j]:=by
     have h3:((c.drop lo).take len)[j]? = (ps.map AV.p)[j]?:=by rw [hcs]
     rw [List.getElem?_take,if_pos (by omega),List.getElem?_drop,List.getElem?_eq_getElem (by omega),List.getElem?_map,List.getElem?_eq_getElem hj] at h3
     simpa using h3
    rw [e] at this
    exact this.p_inv.mono (fun b hb=>ok_okE b hb)
   ·rename_i c hg
    simp only [Option.some.injEq,Prod.mk.injEq] at h
    obtain ⟨rfl,rfl,rfl⟩:=h
    obtain ⟨h1,h2⟩:=hp
    have hlen:((c.drop lo).take len).length=len:=by simp only [List.length_take,List.length_drop]; omega
    refine .of ?_
    rcases hs with ⟨rfl,ad,rfl⟩ | ⟨l,cap,hm,rfl,hc1,hc2⟩
    ·simp only [List.take_zero]
     exact .list0 _ _ fun _=>rfl
    rcases R.fro k c (hget_fro hg) with ⟨_,hn⟩ | ⟨l',vs,hm2,hB,hl,hcells⟩
    ·rw [hm] at hn; cases hn
    rw [hm] at hm2; cases hm2
    refine row_reads hlen h2 hB hc1 (fun j=>vs (lo + j)) (fun j hj=>?_) fun j hj=>?_
    ·rw [Nat.add_assoc]; exact (hcells (lo + j) (by omega)).1
    rw [hlen] at hj
    simp only [List.getElem_take,List.getElem_drop]
    exact (hcells (lo + j) (by omega)).2
   ·cases h
   ·cases h
   ·cases h
   cases h
 ·rename_i k i
  split at h
  ·rename_i c hg
   simp only [Option.some.injEq,Prod.mk.injEq] at h
   obtain ⟨rfl,rfl,rfl⟩:=h
   cases hv with
   | ptr _ _ _ hk hs =>
   obtain ⟨l,hm,rfl⟩:=hs
   rcases R.fro k c (hget_fro hg) with ⟨_,hn⟩ | ⟨l',vs,hm2,hB,hl,hcells⟩
   ·rw [hm] at hn; cases hn
   rw [hm] at hm2; cases hm2
   refine .of (.ptr _ _ _ (fun j=>vs (i + j)) hB (fun j hj=>?_) fun j hj=>?_)
   ·simp only [List.length_drop] at hj
    rw [Nat.add_assoc]; exact (hcells (i + j) (by omega)).1
   simp only [List.length_drop] at hj
   simp only [List.getElem_drop]
   exact (hcells (i + j) (by omega)).2
  ·rename_i c hg
   split at h<;>simp only [Option.some.injEq,Prod.mk.injEq,reduceCtorEq] at h
   rename_i ps hps
   obtain ⟨rfl,rfl,rfl⟩:=h
   have hcs:=allP_some hps
   have hlen:ps.length=c.length - i:=by
    have:=congrArg List.length hcs
    simp only [List.length_drop,List.length_map] at this
    omega
   cases hv with
   | ptr _ _ _ hk hs =>
   obtain ⟨l,hm,rfl⟩:=hs
   refine ⟨?_,fun h=>by cases h⟩
   rcases R.blk k c (hget_mut hg) with ⟨_,hn⟩ | ⟨l',cur,e,hm2,hB,hh,hs1,hs3,hs2,hcells⟩
   ·rw [hm] at hn; cases hn
   rw [hm] at hm2; cases hm2
   refine .ptr _ _ _ (fun j=>cur.getD (l.o + (i + j)) undef) ⟨.inr hB,(Array.getElem?_eq_some_iff.1 hh).1⟩ (fun j hj=>?_) fun j hj=>?_
   ·rw [Nat.add_assoc]; exact cell_of hh (by omega)
   have:=hcells (i + j) (by omega)
   have e:c[i + j]'(by omega) = .p ps[j]:=by
    have h3:(c.drop i)[j]? = (ps.map AV.p)[j]?:=by rw [hcs]
    rw [List.getElem?_drop,List.getElem?_eq_getElem (by omega),List.getElem?_map,List.getElem?_eq_getElem hj] at h3
    simpa using h3
   rw [e] at this
   exact this.p_inv.mono (fun b hb=>ok_okE b hb)
  ·cases h
  ·cases h
  ·cases h
  cases h
 cases h
theorem peekList_val {f:AV→Option (Prop × PV × Bool)} {H:Heap} {R0:AV→Value→Prop} (hf:∀ {x v p pv b},R0 x v→f x=some (p,pv,b)→p→Peeks C m H w pv b v) :
  ∀ (l:List AV) (vs:Nat→Value) {p:Prop} {ps:List PV} {b:Bool},(∀ c (h:c < l.length),R0 l[c] (vs c))→peekList f l=some (p,ps,b)→p→ps.length=l.length∧(∀ c (h:c < ps.length),Reads (okE C w) w ps[c] (vs c))∧(b=true→∀ c (h:c < ps.length),Reads (OK C m H w) w ps[c] (vs c))
 | [],vs,p,ps,b,_,h,_=>by
  simp only [peekList,Option.some.injEq,Prod.mk.injEq] at h
  obtain ⟨_,rfl,_⟩:=h
  exact ⟨rfl,fun c h=>by simp at h,fun _ c h=>by simp at h⟩
 | x :: r,vs,p,ps,b,hr,h,hp=>by
  simp only [peekList] at h
  split at h<;>simp only [Option.some.injEq,Prod.mk.injEq,reduceCtorEq] at h
  rename_i p1 v1 b1 q1 l1 c1 h1 h2
  obtain ⟨rfl,rfl,rfl⟩:=h
  have a1:=hf (hr 0 (by simp)) h1 hp.1
  obtain ⟨e1,e2,e3⟩:=peekList_val (R0:=R0) (f:=f) (fun h1 h2 h3=>hf h1 h2 h3) r (fun c=>vs (c + 1)) (fun c hc=>by have:=hr (c + 1) (by simpa using hc); simpa using this) h2 hp.2
  refine ⟨by simp [e1],fun c hc=>?_,fun hb c hc=>?_⟩
  ·cases c with
   | zero=>exact a1.1
   | succ c=>exact e2 c (by simpa using hc)
  rw [Bool.and_eq_true] at hb
  cases c with
  | zero=>exact a1.2 hb.1
  | succ c=>exact e3 hb.2 c (by simpa using hc)
theorem peekG_val (R:Rel C m s tmps w) {x:AV} {v:Value} (hv:AVal (Reads (OK C m s.H w) w) m s.H x v) {p:Prop} {pv:PV} {b:Bool} (h:peekG s.H x=some (p,pv,b)) (hp:p):Peeks C m s.H w pv b v:=by
 unfold peekG at h
 split at h
 ·rename_i l
  split at h<;>simp only [Option.some.injEq,Prod.mk.injEq,reduceCtorEq] at h
  rename_i p1 ps b1 hl
  obtain ⟨rfl,rfl,rfl⟩:=h
  cases hv with
  | agg _ vs hsz hr =>
   obtain ⟨e1,e2,e3⟩:=peekList_val (fun {x v p pv b} (hx:AVal (Reads (OK C m s.H w) w) m s.H x v) h hp=>peekS_val R hx h hp) l (fun c=>vs.getD c undef) hr hl hp
   exact ⟨.agg _ _ (by omega) e2,fun hb=>.agg _ _ (by omega) (e3 hb)⟩
 ·rename_i f l
  split at h<;>simp only [Option.some.injEq,Prod.mk.injEq,reduceCtorEq] at h
  rename_i p1 ps b1 hl
  obtain ⟨rfl,rfl,rfl⟩:=h
  cases hv with
  | cl _ _ vs hsz hr =>
   obtain ⟨e1,e2,e3⟩:=peekList_val (fun {x v p pv b} (hx:AVal (Reads (OK C m s.H w) w) m s.H x v) h hp=>peekS_val R hx h hp) l (fun c=>vs.getD c undef) hr hl hp
   exact ⟨.fn _ _ _ (by omega) e2,fun hb=>.fn _ _ _ (by omega) (e3 hb)⟩
 exact peekS_val R hv h hp
theorem peekA_val (R:Rel C m s tmps w) {x:AV} {v:Value} (hv:AVal (Reads (OK C m s.H w) w) m s.H x v) {p:Prop} {pv:PV} {b:Bool} (h:peekA s.H x=some (p,pv,b)) (hp:p):Peeks C m s.H w pv b v:=by
 unfold peekA at h
 split at h
 ·rename_i l
  split at h<;>simp only [Option.some.injEq,Prod.mk.injEq,reduceCtorEq] at h
  rename_i p1 ps b1 hl
  obtain ⟨rfl,rfl,rfl⟩:=h
  cases hv with
  | tup _ vs hsz hr =>
   obtain ⟨e1,e2,e3⟩:=peekList_val (fun {x v p pv b} (hx:AVal (Reads (OK C m s.H w) w) m s.H x v) h hp=>peekG_val R hx h hp) l (fun c=>vs.getD c undef) hr hl hp
   exact ⟨.tup _ _ (by omega) e2,fun hb=>.tup _ _ (by omega) (e3 hb)⟩
 exact peekG_val R hv h hp
theorem flatOnly_reads {ok ok' : Nat→Prop} {w' : World} {p:PV} {v:Value} (h:Reads ok w p v) (hf:p.flatOnly=true):Reads ok' w' p v:=by
 have sc:∀ {p:PV} {v:Value},Reads ok w p v→(match p with | .int _ _=>true | .bool _=>true | .str _=>true | _=>false)=true→Reads ok' w' p v:=by
  intro p v h hf
  cases h<;>simp at hf
  ·exact .int _ _
  ·exact .bool _
  exact .str _
 have ag:∀ {l:List PV} {vs:Array Value},Reads ok w (.agg l) (.agg vs)→(l.all fun | .int _ _=>true | .bool _=>true | .str _=>true | _=>false)=true→Reads ok' w' (.agg l) (.agg vs):=by
  intro l vs h hf
  cases h with
  | agg _ _ hl hr =>
   refine .agg _ _ hl fun c hc=>sc (hr c hc) ?_
   have:=(List.all_eq_true.1 hf) l[c] (List.getElem_mem hc)
   exact this
 cases h with
 | int k i=>exact .int _ _
 | bool b=>exact .bool _
 | str s=>exact .str _
 | nil=>exact .nil
 | agg l vs hl hr=>exact ag (.agg l vs hl hr) hf
 | tup l vs hl hr =>
  refine .tup _ _ hl fun c hc=>?_
  have h1:=(List.all_eq_true.1 hf) l[c] (List.getElem_mem hc)
  have h2:=hr c hc
  generalize l[c]=x at h1 h2 ⊢
  generalize vs.getD c undef=v at h2 ⊢
  cases h2 with
  | int k i=>exact .int _ _
  | bool b=>exact .bool _
  | str s=>exact .str _
  | agg l vs hl hr=>exact ag (.agg l vs hl hr) h1
  | _=>simp at h1
 | _=>simp [PV.flatOnly] at hf
def Fun (P:Program) (g:FuncId):Prop:=∃ fn,P.funcs[g]? = some fn∧(fn.name == "runtime.NumGoroutine")=false∧fn.body.isNone=false
def FnC (P:Program) (f:FuncId) (args:List PV) (r:PV):Prop:=
 Fun P f∧∀ (okA:Nat→Prop) (w:World) (vals:Array Value),LaidW okA w→vals.size=args.length→(∀ i (h:i < args.length),Reads okA w args[i] (vals.getD i undef)) →
  Calls P f vals w fun e w'=>∃ v,e = .returned v∧Below w.heap.size w w'∧Reads (okN okA w w') w' r v
def callA (s:St) (fo:Operand) (args:Array Operand):Option (FuncId × List PV × Prop × Bool):=
 match s.ev fo with
 | .p (.fn g cap) =>
  match peekList (peekG s.H) (args.toList.map s.ev) with
  | some (p,pvs,b)=>some (g,pvs++cap,p,b)
  | none=>none
 | _=>none
theorem callA_congr {s s2:St} {fo:Operand} {args:Array Operand} {ts:Array TypeId} (h:∀ x∈(Op.call { callee:=.value fo,args:=args,argTypes:=ts }).operands,s2.ev x=s.ev x) (hH:s2.H=s.H):callA s2 fo args=callA s fo args:=by
 simp only [Op.operands,Call.operands] at h
 have h1:s2.ev fo=s.ev fo:=h fo (by simp)
 have h2:args.toList.map s2.ev=args.toList.map s.ev:=List.map_congr_left fun x hx=>h x (by simp; right; simpa using hx)
 unfold callA
 rw [h1,h2,hH]
theorem call_does {o:Oper} {fo:Operand} {args:Array Operand} {ts:Array TypeId} (ho:o.op = .call { callee:=.value fo,args:=args,argTypes:=ts }) {g:FuncId} {avs:List PV} {p:Prop} {b:Bool} {r:PV}
  (hc:FnC P g avs r) (hcall:callA s fo args=some (g,avs,p,b)) (hp:p) (hb:(b || r.flatOnly)=true):DoesW P o s (.p r) s.H:=by
 intro C m a w K Q R hK
 unfold callA at hcall
 split at hcall
 ·rename_i g' cap hf
  split at hcall<;>simp only [Option.some.injEq,Prod.mk.injEq,reduceCtorEq] at hcall
  rename_i p' pvs b' hpl
  obtain ⟨rfl,rfl,rfl,rfl⟩:=hcall
  have hfv:=R.ev fo
  rw [hf] at hfv
  generalize hfe:a.eval fo=fv at hfv
  have hfv:=hfv.p_inv
  cases hfv with
  | fn _ _ vs hcl hcr =>
   obtain ⟨⟨fn,hfn,hnm,hbd⟩,hcalls⟩:=hc
   obtain ⟨e1,e2,e3⟩:=peekList_val (C:=C) (m:=m) (w:=w) (H:=s.H) (fun {x v p pv b} (hx:AVal (Reads (OK C m s.H w) w) m s.H x v) h hp=>peekG_val R hx h hp) (args.toList.map s.ev) (fun c=>(args.toList.map a.eval).getD c undef) (fun c hc=>by
    simp only [List.length_map] at hc
    have:=R.ev (args.toList[c])
    simpa [List.getD,List.getElem?_map,List.getElem?_eq_getElem hc] using this) hpl hp
   simp only [List.length_map] at e1
   have hvals:∀ i (h:i < (pvs++cap).length),(args.map a.eval++vs).getD i undef=if i < pvs.length then (args.toList.map a.eval).getD i undef else vs.getD (i - pvs.length) undef:=by
    intro i hi
    simp only [Array.getD_eq_getD_getElem?]
    by_cases hip:i < pvs.length
    ·rw [if_pos hip,Array.getElem?_append_left (by simp at e1 ⊢; omega)]
     simp [List.getD]
    rw [if_neg hip,Array.getElem?_append_right (by simp at e1 ⊢; omega)]
    congr 2
    simp at e1 ⊢; omega
   have hrun:(execOp a.eval o).run P w = .ok (.enter g' (args.map a.eval++vs)) w:=by
    have hnm' : ¬ fn.name = "runtime.NumGoroutine":=by simpa using hnm
    have hbd' : ¬ fn.body=none:=by intro e; rw [e] at hbd; simp at hbd
    simp [execOp,ho,resolve,hfe,Deferred.ofValue,invoke,callFunc,hfn,hnm',hbd']
   refine opR_of_wp (by rw [ho]; rfl) ?_
   unfold Oper.wp
   rw [hrun]
   simp only [Oper.upon]
   have hsz:(args.map a.eval++vs).size=(pvs++cap).length:=by simp at e1 ⊢; omega
   have done:∀ (okA:Nat→Prop),LaidW okA w→(∀ i (h:i < (pvs++cap).length),Reads okA w (pvs++cap)[i] ((args.map a.eval++vs).getD i undef)) →
     (∀ w' v,Below w.heap.size w w'→Reads (okN okA w w') w' r v→Reads (OK C m s.H w') w' r v)→Calls P g' (args.map a.eval++vs) w fun
      | .returned v,w''=>K (a.put o.dst v) w''
      | .panicked chain,w''=>Q (.panic chain) a w''
      | .outgrown,_=>LetsOut Q:=by
    intro okA h1 h2 h3
    refine (hcalls okA w _ h1 hsz h2).mono fun e w' ⟨v,he,hbl,hv⟩=>?_
    subst he
    exact hK v m w' (R.later hbl) (.p _ _ (h3 w' v hbl hv))
   cases b' with
   | true =>
    refine done (OK C m s.H w) R.laidOK (fun i hi=>?_) fun w' v hbl hv=>?_
    ·rw [hvals i hi]
     by_cases hip:i < pvs.length
     ·rw [if_pos hip,List.getElem_append_left hip]; exact e3 rfl i hip
     rw [if_neg hip,List.getElem_append_right (by omega)]; exact hcr _ (by simp at hi; omega)
    refine hv.mono fun b hb=>?_
    obtain ⟨hb1,hb2⟩:=hb
    rcases hb1 with hb1 | hb1
    ·exact Rel.okExt hbl b hb1
    refine ⟨.inr (R.base _ hb1),hb2,fun k c l hk hl e'=>?_⟩
    rcases R.blk k c hk with ⟨_,hn⟩ | ⟨l2,cur,e2,hl2,_,hg,_⟩
    ·rw [hl] at hn; cases hn
    rw [hl] at hl2; cases hl2
    have:=(Array.getElem?_eq_some_iff.1 hg).1
    have hb1:w.heap.size≤b:=hb1
    omega
   | false =>
    have hfl:r.flatOnly=true:=by simpa using hb
    refine done (fun b=>b < w.heap.size) R.laidLt (fun i hi=>?_) fun w' v hbl hv=>flatOnly_reads hv hfl
    rw [hvals i hi]
    by_cases hip:i < pvs.length
    ·rw [if_pos hip,List.getElem_append_left hip]; exact (e2 i hip).mono fun b hb=>hb.2
    rw [if_neg hip,List.getElem_append_right (by omega)]; exact (hcr _ (by simp at hi; omega)).mono fun b hb=>hb.2.1
 cases hcall
theorem call_loc {o:Oper} {fo:Operand} {args:Array Operand} {ts:Array TypeId} (ho:o.op = .call { callee:=.value fo,args:=args,argTypes:=ts }) {g:FuncId} {avs:List PV} {p:Prop} {b:Bool} {r:PV}
  (hc:FnC P g avs r) (hcall:callA s fo args=some (g,avs,p,b)) (hp:p) (hb:(b || r.flatOnly)=true):Loc1 P o s (.p r) s.H:=by
 refine ⟨fun s2 hn ha hH=>?_,fun hf=>?_,fun _=>rfl⟩
 ·have:=callA_congr (ts:=ts) (s:=s) (s2:=s2) (fo:=fo) (args:=args) (by rw [← ho]; exact ha) hH
  rw [hcall] at this
  rw [← hH]
  exact call_does ho hc this hp hb
 rw [ho] at hf; simp [isT] at hf
theorem runs_call {draw:Bool} {all:Array Oper} {rest:List Oper} {K:St→Prop} {dst:Option Tmp} {ty:TypeId} {pos:String} {aft:Array Edge} {gd:Option (Nat × Bool)} {fo:Operand} {args:Array Operand} {ts:Array TypeId} {g:FuncId} {avs:List PV} {p:Prop} {b:Bool} {r:PV}
  (hc:FnC P g avs r) (hg:guardA all s { dst:=dst,op:=.call { callee:=.value fo,args:=args,argTypes:=ts },type:=ty,pos:=pos,after:=aft,guard:=gd } = some true)
  (hcall:callA s fo args=some (g,avs,p,b)) (hb:(b || r.flatOnly)=true) (hd:dstOk s dst) (hp:p) (h:Runs P draw all rest K (s.put dst (.p r))) :
  Runs P draw all ({ dst:=dst,op:=.call { callee:=.value fo,args:=args,argTypes:=ts },type:=ty,pos:=pos,after:=aft,guard:=gd } :: rest) K s:=by
 obtain ⟨s',hr,hK⟩:=h
 exact ⟨s',.cons (.op s (.p r) s.H hg (dstOk_spec hd) (call_does rfl hc hcall hp hb) fun _=>call_loc rfl hc hcall hp hb) hr,hK⟩
def ent:Nat→List PV→List (Nat × AV)
 | _,[]=>[]
 | k,a :: r=>(k,.p a) :: ent (k + 1) r
def entry (n:Nat) (args:List PV):St:=⟨n,ent 0 args,[]⟩
def rvA (T:TypeId→Option TI) (s:St):ResultVar→Option (Prop × AV)
 | .tmp t=>some (True,s.get t)
 | .cell x t =>
  match T t with
  | some ti=>match loadA ti s.H (s.get x) with | some r=>some (r.vc,r.av) | none=>none
  | none=>none
def rvsA (T:TypeId→Option TI) (s:St):List ResultVar→Option (Prop × List AV)
 | []=>some (True,[])
 | x :: r =>
  match rvA T s x,rvsA T s r with
  | some (p,v),some (q,l)=>some (p∧q,v :: l)
  | _,_=>none
def mkTup (l:List AV):AV:=
 match l with
 | [x]=>x
 | l=>match allP l with | some ps=>.p (.tup ps) | none=>.tup l
def PV.norm0:PV→PV
 | .nil=>.list []
 | .nn l=>.list l
 | .nz=>.list []
 | p=>p
def PV.norm1:PV→PV
 | .agg l=>.agg (l.map PV.norm0)
 | p=>p.norm0
def PV.norm:PV→PV
 | .tup l=>.tup (l.map PV.norm1)
 | p=>p.norm1
theorem norm0_reads {ok:Nat→Prop} {pv:PV} {v:Value} (h:Reads ok w pv v):Reads ok w pv.norm0 v:=by
 unfold PV.norm0
 split
 ·exact h.nil_list
 ·exact h.nn_list
 ·cases h with
  | nz a cap=>exact .list0 _ _ fun h=>by cases h
 exact h
theorem norm1_reads {ok:Nat→Prop} {pv:PV} {v:Value} (h:Reads ok w pv v):Reads ok w pv.norm1 v:=by
 unfold PV.norm1
 split
 ·cases h with
  | agg l vs hl hr =>
   refine .agg _ _ (by simpa using hl) fun c hc=>?_
   rw [List.getElem_map]
   exact norm0_reads (hr c (by simpa using hc))
 exact norm0_reads h
theorem norm_reads {ok:Nat→Prop} {pv:PV} {v:Value} (h:Reads ok w pv v):Reads ok w pv.norm v:=by
 unfold PV.norm
 split
 ·cases h with
  | tup l vs hl hr =>
   refine .tup _ _ (by simpa using hl) fun c hc=>?_
   rw [List.getElem_map]
   exact norm1_reads (hr c (by simpa using hc))
 exact norm1_reads h
def endA (T:TypeId→Option TI) (rs:List ResultVar) (r:PV) (s:St):Prop:=
 match rvsA T s rs with
 | some (p,l)=>match peekA s.H (mkTup l) with | some (q,pv,_)=>p∧q∧pv.norm=r | none=>False
 | none=>False
def Post (T:TypeId→Option TI) (rs:List ResultVar) (r:PV):Exit→St→Prop
 | .normal,s=>endA T rs r s
 | .ret,s=>endA T rs r s
 | _,_=>False
theorem ent_lk:∀ (l:List PV) (k t:Nat),lk (ent k l) t=if k≤t then (match l[t - k]? with | some a=>.p a | none=>.dead) else .dead
 | [],k,t=>by simp [ent,lk]
 | a :: r,k,t=>by
  simp only [ent,lk]
  by_cases h:k=t
  ·subst h; simp
  rw [show (k == t)=false by simpa using h]
  simp only [cond_false]
  rw [ent_lk r (k + 1) t]
  by_cases hk:k≤t
  ·rw [if_pos (by omega),if_pos hk,show t - k=(t - (k + 1)) + 1 by omega]; rfl
  rw [if_neg (by omega),if_neg hk]
def rvRun (tmps:Array Value):ResultVar→Sem Value
 | .tmp t=>pure (tmps.getD t undef)
 | .cell a t=>do loadVar t (← asAddr (tmps.getD a undef))
theorem results_eq (fn:Func) (tmps:Array Value):results fn tmps=(do
  let vs ← fn.results.mapM (rvRun tmps)
  pure (if h:vs.size=1 then vs[0] else .tuple vs)):=by
 unfold results
 have:(fun x=>match x with
  | .tmp t=>pure (tmps.getD t undef)
  | .cell a t=>do loadVar t (← asAddr (tmps.getD a undef)):ResultVar→Sem Value)=rvRun tmps:=by
  funext x; cases x<;>rfl
 rw [← this]
 rfl
theorem rvA_run (hT:∀ t ti,T t=some ti→tiOf P t=some ti) {a:Act} (R:Rel C m s a.tmps w) {x:ResultVar} {p:Prop} {av:AV} (h:rvA T s x=some (p,av)) (hp:p) :
  ∃ v,(rvRun a.tmps x).run P w = .ok v w∧AVal (Reads (OK C m s.H w) w) m s.H av v:=by
 cases x with
 | tmp t =>
  simp only [rvA,Option.some.injEq,Prod.mk.injEq] at h
  obtain ⟨_,rfl⟩:=h
  exact ⟨_,rfl,R.slot t⟩
 | cell b t =>
  simp only [rvA] at h
  split at h
  ·rename_i ti ht
   split at h<;>simp only [Option.some.injEq,Prod.mk.injEq,reduceCtorEq] at h
   rename_i r hr
   obtain ⟨rfl,rfl⟩:=h
   obtain ⟨_,v,hrun,hv⟩:=loadA_does hT R (o:={ dst:=none,op:=.load t (.tmp b),type:=0,pos:="",after:=#[],guard:=none }) (x:=.tmp b) rfl ht (by simpa [St.ev] using hr) hp
   refine ⟨v,?_,hv⟩
   simp only [execOp,Instr.loadAt,Act.eval,Sem.run_bind] at hrun
   cases hpv:a.tmps.getD b undef with
   | pointer ad =>
    rw [hpv] at hrun
    cases ad with
    | some ad =>
     simp only [Instr.sureAddr,Sem.run_pure,Result.andThen_ok] at hrun
     simp only [rvRun,hpv,asAddr,Sem.run_bind,Sem.run_pure,Result.andThen_ok]
     cases hl:(loadVar t ad).run P w<;>rw [hl] at hrun<;>simp [Result.andThen] at hrun
     rw [hrun.1,hrun.2]
    | none=>simp [Instr.sureAddr] at hrun
   | _=>rw [hpv] at hrun; simp [Instr.sureAddr] at hrun
  cases h
theorem rvsA_run (hT:∀ t ti,T t=some ti→tiOf P t=some ti) {a:Act} (R:Rel C m s a.tmps w):∀ (l:List ResultVar) {p:Prop} {avs:List AV},rvsA T s l=some (p,avs)→p →
  ∃ vs:List Value,(l.mapM (rvRun a.tmps)).run P w = .ok vs w∧vs.length=avs.length∧∀ c (h:c < avs.length),AVal (Reads (OK C m s.H w) w) m s.H avs[c] (vs.getD c undef)
 | [],p,avs,h,_=>by
  simp only [rvsA,Option.some.injEq,Prod.mk.injEq] at h
  obtain ⟨_,rfl⟩:=h
  exact ⟨[],rfl,rfl,fun c h=>by simp at h⟩
 | x :: r,p,avs,h,hp=>by
  simp only [rvsA] at h
  split at h<;>simp only [Option.some.injEq,Prod.mk.injEq,reduceCtorEq] at h
  rename_i p1 v1 q1 l1 h1 h2
  obtain ⟨rfl,rfl⟩:=h
  obtain ⟨v,e1,e2⟩:=rvA_run hT R h1 hp.1
  obtain ⟨vs,f1,f2,f3⟩:=rvsA_run hT R r h2 hp.2
  refine ⟨v :: vs,?_,by simp [f2],fun c hc=>?_⟩
  ·rw [List.mapM_cons]
   simp only [Sem.run_bind,e1,Result.andThen_ok,f1,Sem.run_pure]
  cases c with
  | zero=>exact e2
  | succ c=>simpa [List.getD] using f3 c (by simpa using hc)
theorem mkTup_val {ok:Nat→Prop} {H:Heap} {l:List AV} {vs:List Value} (hl:vs.length=l.length) (hr:∀ c (h:c < l.length),AVal (Reads ok w) m H l[c] (vs.getD c undef)) :
  AVal (Reads ok w) m H (mkTup l) (if h:vs.toArray.size=1 then vs.toArray[0] else .tuple vs.toArray):=by
 unfold mkTup
 split
 ·rename_i x
  match vs,hl with
  | [v],_=>simpa using hr 0 (by simp)
 rename_i hne
 have h1:¬ vs.toArray.size=1:=by
  intro e
  have:l.length=1:=by simp at e; omega
  obtain ⟨x,rfl⟩:=List.length_eq_one_iff.1 this
  exact hne x rfl
 rw [dif_neg h1]
 have hr' : ∀ c (h:c < l.length),AVal (Reads ok w) m H l[c] (vs.toArray.getD c undef):=by
  intro c hc
  have:=hr c hc
  simpa [List.getD,Array.getD_eq_getD_getElem?] using this
 split
 ·rename_i ps hps
  have e:=allP_some hps
  subst e
  refine .p _ _ (.tup _ _ (by simpa using hl) fun c hc=>?_)
  have:=hr' c (by simpa using hc)
  simp only [List.getElem_map] at this
  exact this.p_inv
 exact .tup _ _ (by simpa using hl) hr'
theorem fnc_of (hT:∀ t ti,T t=some ti→tiOf P t=some ti) {f:FuncId} {fn:Func} {c:Code} {args:List PV} {r:PV} (hf:P.funcs[f]? = some fn) (hb:fn.body=some c) (hnm:(fn.name == "runtime.NumGoroutine")=false) (hn:args.length≤fn.ntmps)
  (h:Holds P c (Post T fn.results.toList r) (entry fn.ntmps args)):FnC P f args r:=by
 refine ⟨⟨fn,hf,hnm,by rw [hb]; rfl⟩,fun okA w vals hok hsz hrd=>calls_of_wp hf hb (wpR_none.1 ?_)⟩
 have hslot:∀ t,(vals++Array.replicate (fn.ntmps - vals.size) undef).getD t undef=if t < vals.size then vals.getD t undef else undef:=by
  intro t
  simp only [Array.getD_eq_getD_getElem?]
  by_cases ht:t < vals.size
  ·rw [if_pos ht,Array.getElem?_append_left ht]
  rw [if_neg ht,Array.getElem?_append_right (by omega),Array.getElem?_replicate]
  split<;>rfl
 have R:Rel (fresh okA w) (fun _=>none) (entry fn.ntmps args) (vals++Array.replicate (fn.ntmps - vals.size) undef) w:=by
  have hOK:∀ b,okA b→OK (fresh okA w) (fun _=>none) [] w b:=fun b hb=>⟨.inl hb,hok.1 b hb,fun k c l h=>by simp at h⟩
  refine ⟨fun g l hg=>(hok.2 g l hg).mono hOK,BelowP.refl _ _,fun _ h=>h,by simp [entry]; omega,fun k k' c c' l l' h=>by simp [entry] at h,fun k c h=>by simp [entry] at h,fun k c h=>by simp [entry] at h,fun t=>?_,fun k kk d v h=>by simp [entry] at h,fun k k' kk d v kk' d' v' l l' h=>by simp [entry] at h,fun k i j h=>by simp [entry] at h,fun k r h=>by simp [entry] at h,fun k k' r r' l l' h=>by simp [entry] at h⟩
  rw [hslot]
  unfold St.get entry
  simp only
  rw [ent_lk]
  simp only [Nat.zero_le,if_true,Nat.sub_zero]
  by_cases ht:t < args.length
  ·rw [List.getElem?_eq_getElem ht,if_pos (by omega)]
   exact .p _ _ ((hrd t ht).mono hOK)
  rw [List.getElem?_eq_none (by omega)]
  exact .dead _
 refine wpR_mono (h none [] _ _ { tmps:=vals++Array.replicate (fn.ntmps - vals.size) undef,defers:=[] } w R rfl) fun e a' w' ⟨s',m',h1,h2,h3⟩=>?_
 have fini:endA T fn.results.toList r s'→a'.defers=[]∧∃ v,(results fn a'.tmps).run P w' = .ok v w'∧∃ v_1,Ending.returned v = .returned v_1∧Below w.heap.size w w'∧Reads (okN okA w w') w' r v_1:=by
  intro he
  unfold endA at he
  split at he
  ·rename_i p l hl
   split at he
   ·rename_i q pv b hpk
    obtain ⟨hp,hq,rfl⟩:=he
    obtain ⟨vs,e1,e2,e3⟩:=rvsA_run hT h2 fn.results.toList hl hp
    have hv:=mkTup_val (w:=w') e2 e3
    have hpv:=peekA_val h2 hv hpk hq
    refine ⟨h3,_,?_,_,rfl,h2.below.below (fun _ h=>h),norm_reads hpv.1⟩
    rw [results_eq,Array.mapM_eq_mapM_toList]
    simp only [Sem.run_bind,Sem.run_map]
    rw [e1]
    simp only [Result.andThen_ok]
    rfl
   exact he.elim
  exact he.elim
 cases e with
 | normal=>exact fini h1
 | ret=>exact fini h1
 | _=>exact h1.elim
end
end Go.Pv

namespace Go.Pv
open Go.RowKit
section
variable {P:Program} {T:TypeId→Option TI} {C:Ctx} {m:Map} {s:St} {tmps:Array Value} {w:World} {Q:Exit→St→Prop}
theorem Rel.freeze (R:Rel C m s tmps w) {k:Nat} {c:List AV} {ps:List PV} (hk:hget s.H k = .own c) (hc:allP c=some ps):Rel C m { s with H:=hset s.H k (.fro ps) } tmps w:=by
 have hk:=hget_mut hk
 have hkl:k < s.H.length:=(List.getElem?_eq_some_iff.1 hk).1
 have hcs:=allP_some hc
 have hget:∀ (j:Nat) (b:Blk),(hset s.H k (.fro ps))[j]? = some b→(j=k∧b = .fro ps)∨(j ≠ k∧s.H[j]? = some b):=by
  intro j b h
  rw [hset_get] at h
  by_cases e:j=k
  ·rw [if_pos ⟨e,hkl⟩] at h; exact .inl ⟨e,(Option.some.inj h).symm⟩
  rw [if_neg (by simp [e])] at h; exact .inr ⟨e,h⟩
 have own:∀ (j:Nat) (d:List AV),(hset s.H k (.fro ps))[j]? = some (.own d)→j ≠ k∧s.H[j]? = some (.own d):=by
  intro j d h
  rcases hget j _ h with ⟨_,h⟩ | h
  ·cases h
  exact h
 have hok:∀ b,OK C m s.H w b→∀ j d l,(hset s.H k (.fro ps))[j]? = some (.own d)→m j=some l→l.g ≠ b:=fun b hb j d l h hl=>hb.2.2 j d l (own j d h).2 hl
 have ho:∀ b,OK C m s.H w b→OK C m (hset s.H k (.fro ps)) w b:=fun b h=>⟨h.1,h.2.1,hok b h⟩
 refine R.heap (BelowP.refl _ _) (by simp [hset_length]) (fun _ _=>rfl) hok (fun _ _=>rfl) ?_ ?_ ?_ (mp_hset rfl)
 ·exact fun j j' c1 c2 l1 l2 h1 h2 h3 h4 h5=>R.inj j j' c1 c2 l1 l2 (own j _ h1).2 (own j' _ h2).2 h3 h4 h5
 ·exact fun j d h=>(R.blk j d (own j d h).2).ext (fun p v h=>h.ext ho fun _ _=>rfl) (by simp [hset_length]) (fun _ _=>rfl) rfl fun _ _=>rfl
 intro j d h
 rcases hget j _ h with ⟨rfl,h'⟩ | ⟨hne,h⟩
 ·cases h'
  rcases R.blk j c hk with ⟨hc0,hn⟩ | ⟨l,cur,e,hl,hB,hg,h1,h2,h3,hcells⟩
  ·subst hc0
   exact .inl ⟨by simpa using hcs,hn⟩
  have hlen:c.length=ps.length:=by rw [hcs]; simp
  refine .inr ⟨l,fun i=>cur.getD (l.o + i) undef,hl,⟨.inr hB,(Array.getElem?_eq_some_iff.1 hg).1,fun j' d' l' h' hl' e'=>?_⟩,by omega,fun i hi=>⟨cell_of hg (by omega),?_⟩⟩
  ·obtain ⟨h1,h2⟩:=own j' d' h'
   exact h1 (R.inj j' j d' c l' l h2 hk hl' hl e')
  have:=hcells i (by omega)
  have e:c[i]'(by omega) = .p ps[i]:=by simp [hcs]
  rw [e] at this
  exact this.p_inv.mono ho
 exact (R.fro j d h).ext ho (fun _ _=>rfl) rfl
theorem hk_freeze {c:Code} (k:Nat) {b:List AV} {ps:List PV} (hk:hget s.H k = .own b) (hc:allP b=some ps) (h:Holds P c Q { s with H:=hset s.H k (.fro ps) }):Holds P c Q s:=
 fun r ds C m a w R hd=>h r ds C m a w (R.freeze hk hc) hd
theorem Rel.pure (R:Rel C m s tmps w) {t:Nat} {p:Prop} {pv:PV} (h:peekG s.H (s.get t)=some (p,pv,true)) (hp:p):Rel C m { s with sl:=(t,.p pv) :: s.sl } tmps w:=by
 refine ⟨R.laid,R.below,R.base,R.size,R.inj,R.blk,R.fro,fun t'=>?_,R.mp⟩
 by_cases e:t=t'
 ·subst e
  have e2:({ s with sl:=(t,AV.p pv) :: s.sl } : St).get t = .p pv:=by simp [St.get,lk]
  rw [e2]
  exact .p _ _ ((peekG_val R (R.slot t) h hp).2 rfl)
 have e2:({ s with sl:=(t,AV.p pv) :: s.sl } : St).get t' = s.get t':=by simp [St.get,lk,show (t == t')=false by simpa using e]
 rw [e2]
 exact R.slot t'
theorem hk_pure {c:Code} (t:Nat) {p:Prop} {pv:PV} (hk:peekG s.H (s.get t)=some (p,pv,true)) (hp:p) (h:Holds P c Q { s with sl:=(t,.p pv) :: s.sl }):Holds P c Q s:=
 fun r ds C m a w R hd=>h r ds C m a w (R.pure hk hp) hd
theorem pc_int (k:IntKind) (i:Int):(PV.int k i).cells=[.int k i]:=rfl
theorem pc_bool (b:Bool):(PV.bool b).cells=[.bool b]:=rfl
theorem pc_str (b:ByteArray):(PV.str b).cells=[.str b]:=rfl
theorem pc_list (l:List PV):(PV.list l).cells=[.list l]:=rfl
theorem pc_nn (l:List PV):(PV.nn l).cells=[.nn l]:=rfl
theorem pc_nil:PV.nil.cells=[.nil]:=rfl
theorem pc_agg (l:List PV):(PV.agg l).cells=l:=rfl
theorem pc_ptr (l:List PV):(PV.ptr l).cells=[.ptr l]:=rfl
theorem pc_fn (f:FuncId) (l:List PV):(PV.fn f l).cells=[.fn f l]:=rfl
theorem eqv_tt:(true == true)=true:=rfl
theorem eqv_tf:(true == false)=false:=rfl
theorem eqv_ft:(false == true)=false:=rfl
theorem eqv_ff:(false == false)=true:=rfl
theorem fin_run {draw:Bool} {all:Array Oper} {K:St→Prop} {vc:Prop} (h1:vc) (h2:K s):fin P draw all K (.run vc s):=⟨h1,h2⟩
theorem fin_stop {draw:Bool} {all:Array Oper} {K:St→Prop} {vc:Prop} {r:List Oper} (h1:vc) (h2:Runs P draw all r K s):fin P draw all K (.stop vc r s):=⟨h1,h2⟩
def il (w:List Int):List PV:=w.map (PV.int .i64)
theorem il_length (w:List Int):(il w).length=w.length:=by simp [il]
theorem il_get {w:List Int} {i:Nat} (h:i < w.length):(il w).getD i default = .int .i64 (w.getD i 0):=by
 simp [il,List.getD,List.getElem?_eq_getElem h]
theorem il_all (w:List Int):(il w).all PV.one=true:=by
 simp [il,PV.one]
theorem il_cells (w:List Int):(il w).all (fun x=>x.cells.length == 1)=true:=by
 simp [il,PV.cells]
theorem il_take (w:List Int) (n:Nat):(il w).take n=il (w.take n):=by simp [il]
theorem il_drop (w:List Int) (n:Nat):(il w).drop n=il (w.drop n):=by simp [il]
theorem il_cons (x:Int) (w:List Int):il (x :: w) = .int .i64 x :: il w:=rfl
def ol (w:List Int):List AV:=(il w).map .p
theorem ol_length (w:List Int):(ol w).length=w.length:=by simp [ol,il]
theorem ol_get {w:List Int} {i:Nat} (h:i < w.length) (d:AV):(ol w).getD i d = .p (.int .i64 (w.getD i 0)):=by
 simp [ol,il,List.getD,List.getElem?_eq_getElem h]
theorem ol_take (w:List Int) (n:Nat):(ol w).take n=ol (w.take n):=by simp [ol,il]
theorem ol_drop (w:List Int) (n:Nat):(ol w).drop n=ol (w.drop n):=by simp [ol,il]
theorem ol_append (v w:List Int):ol v++ol w=ol (v++w):=by simp [ol,il]
theorem ol_snoc (v:List Int) (x:Int):ol v++[.p (.int .i64 x)]=ol (v++[x]):=by simp [ol,il]
theorem ol_nil:ol []=[]:=rfl
theorem ol_cons (x:Int) (w:List Int):ol (x :: w) = .p (.int .i64 x) :: ol w:=rfl
theorem ol_ok (w:List Int):(ol w).all cellOk=true:=by simp [ol,il,cellOk,PV.one]
theorem ol_ren (w:List Int) (π:List Nat):(ol w).map (Go.Pv.ren π)=ol w:=by simp [ol,il,Go.Pv.ren,ren1]
theorem ol_sc (w:List Int) (n:Nat):(ol w).all (scA n)=true:=by simp [ol,il,scA,sc1]
theorem ol_allP (w:List Int):allP (ol w)=some (il w):=by
 induction w with
 | nil=>rfl
 | cons x r ih=>simp only [ol_cons,allP,ih,Option.map_some,il_cons]
theorem il_ol (w:List Int):(il w).map AV.p=ol w:=rfl
theorem ol_set {w:List Int} {i:Nat} (x:Int):(ol w).set i (.p (.int .i64 x))=ol (w.set i x):=by
 simp [ol,il,List.map_set]
theorem ol_replicate (n:Nat):List.replicate n (AV.p (.int .i64 0))=ol (List.replicate n 0):=by simp [ol,il]
theorem take_len {α:Type} (l:List α):l.take l.length=l:=List.take_length
theorem take_take_len {α:Type} (l:List α) (n:Nat):l.take (l.take n).length=l.take n:=by
 rw [List.length_take,Nat.min_def]; split
 ·rfl
 rw [List.take_of_length_le (Nat.le_refl _),List.take_of_length_le (by omega)]
theorem take_app1 {α:Type} (l:List α) (x:α):(l++[x]).take (l.length + 1)=l++[x]:=by
 rw [List.take_of_length_le (by simp)]
theorem take_app2 {α:Type} (l r:List α):(l++r).take (l.length + r.length)=l++r:=by
 rw [List.take_of_length_le (by simp)]
theorem drop_take_len {α:Type} (l:List α) (n:Nat):(l.drop n).take (l.length - n)=l.drop n:=List.take_of_length_le (by simp)
theorem tm_nat (m n:Nat):Int.tmod (m:Int) (n:Int)=((m % n:Nat):Int):=rfl
theorem td_nat (m n:Nat):Int.tdiv (m:Int) (n:Int)=((m / n:Nat):Int):=rfl
theorem tn_pred (a:Nat):((a:Int) - 1).toNat=a - 1:=by omega
theorem tn_succ (a:Nat):((a:Int) + 1).toNat=a + 1:=by omega
theorem tn_sub (a b:Nat):((a:Int) - (b:Int)).toNat=a - b:=by omega
structure Outs (C:Ctx) (m:Map) (H:Heap) (w:World) (av:AV) (v:Value):Prop where
 inj:∀ (k k' : Nat) (c c' : List AV) l l',H[k]? = some (Blk.own c)→H[k']? = some (Blk.own c')→m k=some l→m k' = some l'→l.g=l'.g→k=k'
 blk:∀ (k:Nat) (c:List AV),H[k]? = some (Blk.own c)→BlkMut C.B (Reads (OK C m H w) w) m H w k c
 fro:∀ (k:Nat) (c:List PV),H[k]? = some (Blk.fro c)→BlkFro (OK C m H w) w m k c
 val:AVal (Reads (OK C m H w) w) m H av v
def FnG (P:Program) (f:FuncId) (args:List PV) (av:AV) (H:Heap):Prop:=
 Fun P f∧∀ (okA:Nat→Prop) (w:World) (vals:Array Value),LaidW okA w→vals.size=args.length→(∀ i (h:i < args.length),Reads okA w args[i] (vals.getD i undef)) →
  Calls P f vals w fun e w'=>∃ v m',e = .returned v∧Below w.heap.size w w'∧Outs (fresh okA w) m' H w' av v
def endG (T:TypeId→Option TI) (rs:List ResultVar) (av:AV) (H:Heap) (s:St):Prop:=
 match rvsA T s rs with
 | some (p,l)=>p∧∃ π,mkTup l=ren π av∧scA π.length av=true∧Le π ⟨s.n,[],H⟩ s
 | none=>False
def PostG (T:TypeId→Option TI) (rs:List ResultVar) (av:AV) (H:Heap):Exit→St→Prop
 | .normal,s=>endG T rs av H s
 | .ret,s=>endG T rs av H s
 | _,_=>False
theorem rel_entry {P:Program} {f:FuncId} {fn:Func} {args:List PV} {okA:Nat→Prop} {w:World} {vals:Array Value} (_hf:P.funcs[f]? = some fn) (hn:args.length≤fn.ntmps) (hok:LaidW okA w) (hsz:vals.size=args.length) (hrd:∀ i (h:i < args.length),Reads okA w args[i] (vals.getD i undef)) :
  Rel (fresh okA w) (fun _=>none) (entry fn.ntmps args) (vals++Array.replicate (fn.ntmps - vals.size) undef) w:=by
 have hslot:∀ t,(vals++Array.replicate (fn.ntmps - vals.size) undef).getD t undef=if t < vals.size then vals.getD t undef else undef:=by
  intro t
  simp only [Array.getD_eq_getD_getElem?]
  by_cases ht:t < vals.size
  ·rw [if_pos ht,Array.getElem?_append_left ht]
  rw [if_neg ht,Array.getElem?_append_right (by omega),Array.getElem?_replicate]
  split<;>rfl
 have hOK:∀ b,okA b→OK (fresh okA w) (fun _=>none) [] w b:=fun b hb=>⟨.inl hb,hok.1 b hb,fun k c l h=>by simp at h⟩
 refine ⟨fun g l hg=>(hok.2 g l hg).mono hOK,BelowP.refl _ _,fun _ h=>h,by simp [entry]; omega,fun k k' c c' l l' h=>by simp [entry] at h,fun k c h=>by simp [entry] at h,fun k c h=>by simp [entry] at h,fun t=>?_,fun k kk d v h=>by simp [entry] at h,fun k k' kk d v kk' d' v' l l' h=>by simp [entry] at h,fun k i j h=>by simp [entry] at h,fun k r h=>by simp [entry] at h,fun k k' r r' l l' h=>by simp [entry] at h⟩
 rw [hslot]
 unfold St.get entry
 simp only
 rw [ent_lk]
 simp only [Nat.zero_le,if_true,Nat.sub_zero]
 by_cases ht:t < args.length
 ·rw [List.getElem?_eq_getElem ht,if_pos (by omega)]
  exact .p _ _ ((hrd t ht).mono hOK)
 rw [List.getElem?_eq_none (by omega)]
 exact .dead _
theorem fng_of (hT:∀ t ti,T t=some ti→tiOf P t=some ti) {f:FuncId} {fn:Func} {c:Code} {args:List PV} {av:AV} {H:Heap} (hf:P.funcs[f]? = some fn) (hb:fn.body=some c) (hnm:(fn.name == "runtime.NumGoroutine")=false) (hn:args.length≤fn.ntmps)
  (h:Holds P c (PostG T fn.results.toList av H) (entry fn.ntmps args)):FnG P f args av H:=by
 refine ⟨⟨fn,hf,hnm,by rw [hb]; rfl⟩,fun okA w vals hok hsz hrd=>calls_of_wp hf hb (wpR_none.1 ?_)⟩
 have R:=rel_entry hf hn hok hsz hrd
 refine wpR_mono (h none [] _ _ { tmps:=vals++Array.replicate (fn.ntmps - vals.size) undef,defers:=[] } w R rfl) fun e a' w' ⟨s',m',h1,h2,h3⟩=>?_
 have fini:endG T fn.results.toList av H s'→a'.defers=[]∧∃ v,(results fn a'.tmps).run P w' = .ok v w'∧∃ v_1 m'',Ending.returned v = .returned v_1∧Below w.heap.size w w'∧Outs (fresh okA w) m'' H w' av v_1:=by
  intro he
  unfold endG at he
  split at he
  ·rename_i p l hl
   obtain ⟨hp,π,hav,hsc,hle⟩:=he
   obtain ⟨vs,e1,e2,e3⟩:=rvsA_run hT h2 fn.results.toList hl hp
   have hv:=mkTup_val (w:=w') e2 e3
   have R':=h2.weaken hle
   rw [hav] at hv
   have hlen:H.length=π.length:=(hle.2.2.1.get).1.symm
   have ho:∀ b,OK (fresh okA w) m' s'.H w' b→OK (fresh okA w) (mren m' π) H w' b:=by
    refine fun b hb=>⟨hb.1,hb.2.1,fun k c l hk hl=>?_⟩
    obtain ⟨k',a,b'⟩:=(hle.2.2.1.get).2 k _ hk
    simp only [mren,a,Option.bind_some] at hl
    unfold LeB at b'
    simp only at b'
    split at b'
    ·rename_i d hd
     exact hb.2.2 k' _ l (hget_mut hd) hl
    exact b'.elim
   refine ⟨h3,_,?_,_,_,rfl,h2.below.below (fun _ h=>h),R'.inj,R'.blk,R'.fro,hv.unren (fun p v h=>h.mono ho) hlen hsc⟩
   rw [results_eq,Array.mapM_eq_mapM_toList]
   simp only [Sem.run_bind,Sem.run_map]
   rw [e1]
   simp only [Result.andThen_ok]
   rfl
  exact he.elim
 cases e with
 | normal=>exact fini h1
 | ret=>exact fini h1
 | _=>exact h1.elim
def shf (n len:Nat):List Nat:=List.range' n len
def Blk.ren (π:List Nat):Blk→Blk
 | .own c=>.own (c.map (Go.Pv.ren π))
 | b=>b
theorem shf_get {n len k:Nat} (h:k < len):(shf n len).getD k 0=n + k:=by
 simp [shf,List.getD,h]
theorem AVal.shift {rd rd' : PV→Value→Prop} {m m2:Map} {H H2:Heap} {n:Nat} (h1:∀ p v,rd p v→rd' p v) (h2:n + H.length≤H2.length) (hm:∀ k,k < H.length→m2 (n + k)=m k) {x:AV} {v:Value} (h:AVal rd m H x v)
  (hx:scA H.length x=true):AVal rd' m2 H2 (Go.Pv.ren (shf n H.length) x) v:=by
 have one:∀ {x:AV} {v:Value},AVal rd m H x v→sc1 H.length x=true→AVal rd' m2 H2 (ren1 (shf n H.length) x) v:=by
  intro x v h hs
  cases h with
  | dead v=>exact .dead v
  | p pv v h=>exact .p pv v (h1 _ _ h)
  | sl k lo len v hk h =>
   simp only [ren1,shf_get hk]
   refine .sl _ lo len v (by omega) ?_
   unfold SlOk at *
   rw [hm k hk]; exact h
  | ptr k i v hk h =>
   simp only [ren1,shf_get hk]
   refine .ptr _ i v (by omega) ?_
   unfold PtrOk at *
   rw [hm k hk]; exact h
  | agg l vs hl hr=>simp [sc1] at hs
  | tup l vs hl hr=>simp [sc1] at hs
  | cl f l vs hl hr=>simp [sc1] at hs
  | itv r=>exact .itv r
  | sls k lo len sz v hk h =>
   simp only [ren1,shf_get hk]
   refine .sls _ lo len sz v (by omega) ?_
   unfold SlsOk at *
   rw [hm k hk]; exact h
  | mptr k v hk h =>
   simp only [ren1,shf_get hk]
   refine .mptr _ v (by omega) ?_
   unfold MptrOk at *
   rw [hm k hk]; exact h
  | yv k l vs v hk h hl hr=>simp [sc1] at hs
 cases x with
 | agg l =>
  cases h with
  | agg _ vs hl hr =>
   refine .agg _ vs (by simpa using hl) fun c hc=>?_
   rw [List.length_map] at hc
   rw [List.getElem_map]
   exact one (hr c hc) ((List.all_eq_true.1 hx) _ (List.getElem_mem hc))
 | tup l =>
  cases h with
  | tup _ vs hl hr =>
   refine .tup _ vs (by simpa using hl) fun c hc=>?_
   rw [List.length_map] at hc
   rw [List.getElem_map]
   exact one (hr c hc) ((List.all_eq_true.1 hx) _ (List.getElem_mem hc))
 | cl f l =>
  cases h with
  | cl _ _ vs hl hr =>
   refine .cl _ _ vs (by simpa using hl) fun c hc=>?_
   rw [List.length_map] at hc
   rw [List.getElem_map]
   exact one (hr c hc) ((List.all_eq_true.1 hx) _ (List.getElem_mem hc))
 | yv k l vs =>
  simp only [scA,Bool.and_eq_true,decide_eq_true_eq] at hx
  cases h with
  | yv _ _ _ _ hk h hl hr =>
   simp only [Go.Pv.ren,shf_get hk]
   refine .yv _ _ vs v (by omega) ?_ (by simpa using hl) fun c hc=>?_
   ·unfold YvOk at *
    rw [hm k hk]; exact h
   rw [List.length_map] at hc
   rw [List.getElem_map]
   exact one (hr c hc) ((List.all_eq_true.1 hx.2) _ (List.getElem_mem hc))
 | dead=>exact .dead v
 | p pv=>exact one h hx
 | sl k lo len=>exact one h hx
 | ptr k i=>exact one h hx
 | mptr k=>exact one h hx
 | itv r=>exact one h hx
 | sls k lo len sz=>exact one h hx
def scG (av:AV) (H:Heap):Bool:=
 scA H.length av && H.all fun | .own c=>c.all (scA H.length) | .mp _ _ _=>false | .anc _ _=>false | .lp _=>false | _=>true
theorem Rel.join {okA:Nat→Prop} (R:Rel C m s tmps w) {w' : World} {m' : Map} {av:AV} {H:Heap} {v:Value} (hA:∀ b,okA b→OK C m s.H w b) (hbl:Below w.heap.size w w') (ho:Outs (fresh okA w) m' H w' av v) (hsc:scG av H=true) :
  ∃ m2,Rel C m2 { s with H:=s.H++H.map (Blk.ren (shf s.H.length H.length)) } tmps w' ∧
   AVal (Reads (OK C m2 (s.H++H.map (Blk.ren (shf s.H.length H.length))) w') w') m2 (s.H++H.map (Blk.ren (shf s.H.length H.length))) (Go.Pv.ren (shf s.H.length H.length) av) v:=by
 obtain ⟨hsa,hsb⟩:=Bool.and_eq_true _ _ ▸ hsc
 let H2:=s.H++H.map (Blk.ren (shf s.H.length H.length))
 let m2:Map:=fun k=>if k < s.H.length then m k else m' (k - s.H.length)
 have hmo:∀ k,k < s.H.length→m2 k=m k:=fun k h=>by simp [m2,h]
 have hmn:∀ k,m2 (s.H.length + k)=m' k:=fun k=>by
  show (if _ then _ else _)=_
  rw [if_neg (by omega),Nat.add_sub_cancel_left]
 have hlt:∀ (k:Nat) (c' : List AV) l,s.H[k]? = some (Blk.own c')→m k=some l→l.g < w.heap.size:=by
  intro k c' l h hl
  rcases R.blk k c' h with ⟨_,hn⟩ | ⟨l',cur',e',hl',hB,hg',_⟩
  ·rw [hl] at hn; cases hn
  rw [hl] at hl'; cases hl'
  exact (Array.getElem?_eq_some_iff.1 hg').1
 have hge:∀ (k:Nat) (c' : List AV) l,H[k]? = some (Blk.own c')→m' k=some l→w.heap.size≤l.g:=by
  intro k c' l h hl
  rcases ho.blk k c' h with ⟨_,hn⟩ | ⟨l',cur',e',hl',hB,hg',_⟩
  ·rw [hl] at hn; cases hn
  rw [hl] at hl'; cases hl'
  exact hB
 have hget:∀ (k:Nat) (b:Blk),H2[k]? = some b→(k < s.H.length∧s.H[k]? = some b)∨∃ j b',k=s.H.length + j∧H[j]? = some b'∧b=b'.ren (shf s.H.length H.length):=by
  intro k b h
  by_cases hk:k < s.H.length
  ·exact .inl ⟨hk,by rwa [List.getElem?_append_left hk] at h⟩
  rw [List.getElem?_append_right (by omega),List.getElem?_map] at h
  cases e:H[k - s.H.length]? with
  | none=>rw [e] at h; cases h
  | some b'=>rw [e] at h; exact .inr ⟨k - s.H.length,b',by omega,e,(Option.some.inj h).symm⟩
 have hown:∀ (k:Nat) (c:List AV),H2[k]? = some (.own c)→(k < s.H.length∧s.H[k]? = some (.own c))∨∃ j c',k=s.H.length + j∧H[j]? = some (.own c')∧c=c'.map (Go.Pv.ren (shf s.H.length H.length)):=by
  intro k c h
  rcases hget k _ h with h | ⟨j,b',rfl,h,e⟩
  ·exact .inl h
  cases b' with
  | own c'=>simp only [Blk.ren,Blk.own.injEq] at e; exact .inr ⟨j,c',rfl,h,e⟩
  | _=>cases e
 have hok:∀ b,OK C m s.H w b→∀ k c l,H2[k]? = some (.own c)→m2 k=some l→l.g ≠ b:=by
  intro b hb k c l h hl
  rcases hown k c h with ⟨hk,h⟩ | ⟨j,c',rfl,h,_⟩
  ·rw [hmo k hk] at hl; exact hb.2.2 k c l h hl
  rw [hmn] at hl
  have:=hge j c' l h hl
  have:=hb.2.1
  omega
 have hOK:∀ b,OK (fresh okA w) m' H w' b→OK C m2 H2 w' b:=by
  intro b hb
  refine ⟨?_,hb.2.1,fun k c l h hl=>?_⟩
  ·rcases hb.1 with h | h
   ·exact (hA b h).1
   exact .inr (R.base _ h)
  rcases hown k c h with ⟨hk,h⟩ | ⟨j,c',rfl,h,_⟩
  ·rw [hmo k hk] at hl
   rcases hb.1 with h' | h'
   ·exact (hA b h').2.2 k c l h hl
   have:=hlt k c l h hl
   have h' : w.heap.size≤b:=h'
   omega
  rw [hmn] at hl; exact hb.2.2 j c' l h hl
 have hh:∀ b,b < w.heap.size→w'.heap[b]? = w.heap[b]?:=fun b h=>hbl.block b h
 have ho1:∀ b,OK C m s.H w b→OK C m2 H2 w' b:=fun b h=>⟨h.1,Nat.lt_of_lt_of_le h.2.1 hbl.size,hok b h⟩
 have hlen2:s.H.length + H.length≤H2.length:=by simp [H2]
 have hmpH:∀ (k:Nat) (b:Blk),b.spc=true→H2[k]? = some b→s.H[k]? = some b:=by
  intro k b hs h
  rcases hget k _ h with h | ⟨j,b',rfl,h2,e⟩
  ·exact h.2
  subst e
  cases b' with
  | mp _ _ _ =>
   have:=(List.all_eq_true.1 hsb) _ (List.mem_of_getElem? h2)
   simp at this
  | anc _ _ =>
   have:=(List.all_eq_true.1 hsb) _ (List.mem_of_getElem? h2)
   simp at this
  | lp _ =>
   have:=(List.all_eq_true.1 hsb) _ (List.mem_of_getElem? h2)
   simp at this
  | _=>cases hs
 refine ⟨m2,R.heap (hbl.toP R.base) (by simp) hmo hok (fun b h=>hh b h.2.1) ?_ ?_ ?_ hmpH,?_⟩
 ·intro k k' c c' l l' h1 h2 h3 h4 h5
  rcases hown k c h1 with ⟨hk,h1⟩ | ⟨j,d,rfl,h1,_⟩<;>rcases hown k' c' h2 with ⟨hk',h2⟩ | ⟨j',d',rfl,h2,_⟩
  ·rw [hmo k hk] at h3; rw [hmo k' hk'] at h4
   exact R.inj k k' c c' l l' h1 h2 h3 h4 h5
  ·rw [hmo k hk] at h3; rw [hmn] at h4
   have:=hlt k c l h1 h3
   have:=hge j' d' l' h2 h4
   omega
  ·rw [hmn] at h3; rw [hmo k' hk'] at h4
   have:=hlt k' c' l' h2 h4
   have:=hge j d l h1 h3
   omega
  rw [hmn] at h3 h4
  rw [ho.inj j j' d d' l l' h1 h2 h3 h4 h5]
 ·intro k c h
  rcases hown k c h with ⟨hk,h⟩ | ⟨j,c',rfl,hj,rfl⟩
  ·refine (R.blk k c h).ext (fun p v h=>h.ext ho1 fun b hb=>hh b hb.2.1) (by simp) hmo (hmo k hk) fun l hl=>?_
   exact hh _ (hlt k c l h hl)
  rcases ho.blk j c' hj with ⟨e,hn⟩ | ⟨l,cur,e,h1,h2,h3,h4,h5,h6,h7⟩
  ·exact .inl ⟨by rw [e]; rfl,by rw [hmn]; exact hn⟩
  refine .inr ⟨l,cur,e,by rw [hmn]; exact h1,R.base _ h2,h3,h4,h5,by simpa using h6,fun i hi=>?_⟩
  rw [List.length_map] at hi
  rw [List.getElem_map]
  have hs:scA H.length c'[i]=true:=by
   have:=(List.all_eq_true.1 hsb) _ (List.mem_of_getElem? hj)
   exact (List.all_eq_true.1 this) _ (List.getElem_mem hi)
  exact (h7 i hi).shift (fun p v h=>h.mono hOK) hlen2 (fun k _=>hmn k) hs
 ·intro k c h
  rcases hget k _ h with ⟨hk,h⟩ | ⟨j,b',rfl,h,e⟩
  ·exact (R.fro k c h).ext ho1 (fun b hb=>hh b hb.2.1) (hmo k hk)
  cases b' with
  | fro c' =>
   simp only [Blk.ren,Blk.fro.injEq] at e
   subst e
   rcases ho.fro j c h with ⟨e1,e2⟩ | ⟨l,vs,e1,e2,e3,e4⟩
   ·exact .inl ⟨e1,by rw [hmn]; exact e2⟩
   exact .inr ⟨l,vs,by rw [hmn]; exact e1,hOK _ e2,e3,fun i hi=>⟨(e4 i hi).1,(e4 i hi).2.mono hOK⟩⟩
  | _=>cases e
 exact ho.val.shift (fun p v h=>h.mono hOK) hlen2 (fun k _=>hmn k) hsa
theorem call_doesG {o:Oper} {fo:Operand} {args:Array Operand} {ts:Array TypeId} (ho:o.op = .call { callee:=.value fo,args:=args,argTypes:=ts }) {g:FuncId} {avs:List PV} {p:Prop} {av:AV} {H:Heap}
  (hc:FnG P g avs av H) (hcall:callA s fo args=some (g,avs,p,true)) (hp:p) (hsc:scG av H=true):DoesW P o s (Go.Pv.ren (shf s.H.length H.length) av) (s.H++H.map (Blk.ren (shf s.H.length H.length))):=by
 intro C m a w K Q R hK
 unfold callA at hcall
 split at hcall
 ·rename_i g' cap hf
  split at hcall<;>simp only [Option.some.injEq,Prod.mk.injEq,reduceCtorEq] at hcall
  rename_i p' pvs b' hpl
  obtain ⟨rfl,rfl,rfl,rfl⟩:=hcall
  have hfv:=R.ev fo
  rw [hf] at hfv
  generalize hfe:a.eval fo=fv at hfv
  have hfv:=hfv.p_inv
  cases hfv with
  | fn _ _ vs hcl hcr =>
   obtain ⟨⟨fn,hfn,hnm,hbd⟩,hcalls⟩:=hc
   obtain ⟨e1,e2,e3⟩:=peekList_val (C:=C) (m:=m) (w:=w) (H:=s.H) (fun {x v p pv b} (hx:AVal (Reads (OK C m s.H w) w) m s.H x v) h hp=>peekG_val R hx h hp) (args.toList.map s.ev) (fun c=>(args.toList.map a.eval).getD c undef) (fun c hc=>by
    simp only [List.length_map] at hc
    have:=R.ev (args.toList[c])
    simpa [List.getD,List.getElem?_map,List.getElem?_eq_getElem hc] using this) hpl hp
   simp only [List.length_map] at e1
   have hvals:∀ i (h:i < (pvs++cap).length),(args.map a.eval++vs).getD i undef=if i < pvs.length then (args.toList.map a.eval).getD i undef else vs.getD (i - pvs.length) undef:=by
    intro i hi
    simp only [Array.getD_eq_getD_getElem?]
    by_cases hip:i < pvs.length
    ·rw [if_pos hip,Array.getElem?_append_left (by simp at e1 ⊢; omega)]
     simp [List.getD]
    rw [if_neg hip,Array.getElem?_append_right (by simp at e1 ⊢; omega)]
    congr 2
    simp at e1 ⊢; omega
   have hrun:(execOp a.eval o).run P w = .ok (.enter g' (args.map a.eval++vs)) w:=by
    have hnm' : ¬ fn.name = "runtime.NumGoroutine":=by simpa using hnm
    have hbd' : ¬ fn.body=none:=by intro e; rw [e] at hbd; simp at hbd
    simp [execOp,ho,resolve,hfe,Deferred.ofValue,invoke,callFunc,hfn,hnm',hbd']
   refine opR_of_wp (by first|rfl|(rw [ho]; rfl)) ?_
   unfold Oper.wp
   rw [hrun]
   simp only [Oper.upon]
   have hsz:(args.map a.eval++vs).size=(pvs++cap).length:=by simp at e1 ⊢; omega
   refine (hcalls (OK C m s.H w) w _ R.laidOK hsz (fun i hi=>?_)).mono fun e w' ⟨v,m',he,hbl,hv⟩=>?_
   ·rw [hvals i hi]
    by_cases hip:i < pvs.length
    ·rw [if_pos hip,List.getElem_append_left hip]; exact e3 rfl i hip
    rw [if_neg hip,List.getElem_append_right (by omega)]; exact hcr _ (by simp at hi; omega)
   subst he
   obtain ⟨m2,R2,hv2⟩:=R.join (fun b h=>h) hbl hv hsc
   exact hK v m2 w' R2 hv2
 cases hcall
theorem runs_callG {all:Array Oper} {rest:List Oper} {K:St→Prop} {dst:Option Tmp} {ty:TypeId} {pos:String} {aft:Array Edge} {gd:Option (Nat × Bool)} {fo:Operand} {args:Array Operand} {ts:Array TypeId} {g:FuncId} {avs:List PV} {p:Prop} {av:AV} {H:Heap}
  (hc:FnG P g avs av H) (hg:guardA all s { dst:=dst,op:=.call { callee:=.value fo,args:=args,argTypes:=ts },type:=ty,pos:=pos,after:=aft,guard:=gd } = some true)
  (hcall:callA s fo args=some (g,avs,p,true)) (hsc:scG av H=true) (hd:dstOk s dst) (hp:p) (h:Runs P false all rest K (({ s with H:=s.H++H.map (Blk.ren (shf s.H.length H.length)) } : St).put dst (Go.Pv.ren (shf s.H.length H.length) av))) :
  Runs P false all ({ dst:=dst,op:=.call { callee:=.value fo,args:=args,argTypes:=ts },type:=ty,pos:=pos,after:=aft,guard:=gd } :: rest) K s:=by
 obtain ⟨s',hr,hK⟩:=h
 exact ⟨s',.cons (.op s _ _ hg (dstOk_spec hd) (call_doesG rfl hc hcall hp hsc) fun h=>by cases h) hr,hK⟩
end
end Go.Pv
namespace Go.Pv
open Go.RowKit
section
variable {P:Program} {T:TypeId→Option TI} {s:St}
theorem runs_op {all:Array Oper} {rest:List Oper} {K:St→Prop} {o:Oper} {av:AV} {H' : Heap} (h1:DoesW P o s av H') (hg:guardA all s o=some true) (hd:dstOk s o.dst)
  (h:Runs P false all rest K (({ s with H:=H' } : St).put o.dst av)):Runs P false all (o :: rest) K s:=by
 obtain ⟨s',hr,hK⟩:=h
 exact ⟨s',.cons (.op s _ _ hg (dstOk_spec hd) h1 fun h=>by cases h) hr,hK⟩
theorem hk_own0 {c:Code} {Q:Exit→St→Prop} (t:Nat) (hs:s.get t = .p .nil) (h:Holds P c Q { s with sl:=(t,.sl s.H.length 0 0) :: s.sl,H:=s.H++[.own []] }):Holds P c Q s:=by
 intro r ds C m a w R hd
 have hv:=R.slot t
 rw [hs] at hv
 have hv:=hv.p_inv.nil_inv
 have R':=R.newNil
 refine h r ds C _ a w ⟨R'.laid,R'.below,R'.base,R'.size,R'.inj,R'.blk,R'.fro,fun t'=>?_,R'.mp⟩ hd
 by_cases e:t=t'
 ·subst e
  have e2:({ s with sl:=(t,.sl s.H.length 0 0) :: s.sl,H:=s.H++[.own []] } : St).get t = .sl s.H.length 0 0:=by simp [St.get,lk]
  rw [e2,hv]
  exact .sl _ _ _ _ (by simp) <| .inl ⟨rfl,none,rfl⟩
 have e2:({ s with sl:=(t,.sl s.H.length 0 0) :: s.sl,H:=s.H++[.own []] } : St).get t' = s.get t':=by simp [St.get,lk,show (t == t')=false by simpa using e]
 rw [e2]
 exact R'.slot t'
inductive Sub:PV→PV→Prop
 | same (a:PV):Sub a a
 | nn (l:List PV):Sub (.nn l) (.list l)
 | nil:Sub .nil (.list [])
 | nz:Sub .nz (.list [])
theorem Sub.reads {a b:PV} (h:Sub a b) {ok:Nat→Prop} {w:World} {v:Value} (hv:Reads ok w a v):Reads ok w b v:=by
 cases h with
 | same=>exact hv
 | nn l=>exact hv.nn_list
 | nil=>exact hv.nil_list
 | nz =>
  cases hv with
  | nz a cap=>exact .list0 _ _ fun h=>by cases h
def Subs:List PV→List PV→Prop
 | [],[]=>True
 | a :: r,b :: s=>Sub a b∧Subs r s
 | _,_=>False
theorem Subs.len:∀ {l r:List PV},Subs l r→l.length=r.length
 | [],[],_=>rfl
 | a :: l,b :: r,h=>by simp [Subs.len h.2]
 | [],_ :: _,h=>h.elim
 | _ :: _,[],h=>h.elim
theorem Subs.get:∀ {l r:List PV},Subs l r→∀ (i:Nat) (h:i < l.length) (h' : i < r.length),Sub l[i] r[i]
 | a :: l,b :: r,h,0,_,_=>h.1
 | a :: l,b :: r,h,i + 1,h1,h2=>by simpa using Subs.get h.2 i (by simpa using h1) (by simpa using h2)
 | [],[],_,i,h,_=>by simp at h
 | [],_ :: _,h,_,_,_=>h.elim
 | _ :: _,[],h,_,_,_=>h.elim
theorem FnC.sub {f:FuncId} {args args' : List PV} {r:PV} (h:FnC P f args r) (hs:Subs args' args):FnC P f args' r:=by
 refine ⟨h.1,fun okA w vals h1 h2 h3=>h.2 okA w vals h1 (h2.trans hs.len) fun i hi=>?_⟩
 have:=hs.len
 exact (hs.get i (by omega) hi).reads (h3 i (by omega))
theorem hk_seal {c:Code} {Q:Exit→St→Prop} (t k:Nat) {w:List Int} (h1:s.get t = .sl k 0 w.length) (h2:hget s.H k = .own (ol w)) (h:Holds P c Q { s with sl:=(t,.p (.list (il w))) :: s.sl,H:=hset s.H k (.fro (il w)) }):Holds P c Q s:=by
 refine hk_freeze k h2 (ol_allP w) (hk_pure (s:={ s with H:=hset s.H k (.fro (il w)) }) t (p:=0 + w.length≤(il w).length∧(((il w).drop 0).take w.length).all PV.one=true) (pv:=.list (((il w).drop 0).take w.length)) ?_ ?_ ?_)
 ·have e:({ s with H:=hset s.H k (.fro (il w)) } : St).get t = .sl k 0 w.length:=h1
  rw [e]
  have hk:=hget_mut h2
  have hkl:k < s.H.length:=(List.getElem?_eq_some_iff.1 hk).1
  have e2:hget (hset s.H k (.fro (il w))) k = .fro (il w):=by
   have key:∀ (H:Heap) (k:Nat) (b:Blk),k < H.length→hget (hset H k b) k=b:=by
    intro H
    induction H with
    | nil=>intro k b h; simp at h
    | cons x r ih =>
     intro k b h
     cases k with
     | zero=>rfl
     | succ k=>exact ih k b (by simpa using h)
   exact key _ _ _ hkl
  simp only [peekG,peekS,e2]
 ·simp only [il_length,List.drop_zero,il_take,take_len,il_all]
  exact ⟨by omega,trivial⟩
 simp only [List.drop_zero,il_take,take_len]
 exact h
def ll (ls:List (List Int)):List PV:=ls.map fun w=>.list (il w)
theorem ll_length (ls:List (List Int)):(ll ls).length=ls.length:=by simp [ll]
theorem ll_get {ls:List (List Int)} {i:Nat} (h:i < ls.length):(ll ls).getD i default = .list (il (ls.getD i [])):=by
 simp [ll,List.getD,List.getElem?_eq_getElem h]
theorem ll_all (ls:List (List Int)):(ll ls).all PV.one=true:=by simp [ll,PV.one]
theorem ll_cells (ls:List (List Int)):(ll ls).all (fun x=>x.cells.length == 1)=true:=by simp [ll,PV.cells]
end
def ev0:=And.intro @pc_int
 <| And.intro @pc_bool
 <| And.intro @pc_str
 <| And.intro @pc_list
 <| And.intro @pc_nn
 <| And.intro @pc_nil
 <| And.intro @pc_agg
 <| And.intro @pc_ptr
 <| And.intro @pc_fn
 <| And.intro @Nat.sub_zero
 <| And.intro @Int.toNat_natCast
 <| And.intro @Int.toNat_zero
 <| And.intro @List.replicate_zero.{0}
 <| And.intro @il_length
 <| And.intro @ll_length
 <| And.intro @ll_all
 <| And.intro @ll_cells
 <| And.intro @il_all
 <| And.intro @il_cells
 <| And.intro @il_ol
 <| And.intro @ol_length
 <| And.intro @ol_ok
 <| And.intro @ol_ren
 <| And.intro @ol_sc
 <| And.intro @ol_allP
 <| And.intro @ol_take
 <| And.intro @ol_drop
 <| And.intro @ol_append
 <| And.intro @ol_snoc
 <| And.intro @take_len
 <| And.intro @il_take
 <| And.intro @il_drop
 <| And.intro @drop_take_len
 <| And.intro @tm_nat
 <| And.intro @td_nat
 <| And.intro @tn_pred
 <| And.intro @tn_succ
 <| And.intro @tn_sub
 <| And.intro @List.headD_cons.{0}
 <| And.intro @List.map_cons.{0,0}
 <| And.intro @List.map_nil.{0,0}
 <| And.intro @List.nil_append.{0}
 <| And.intro @List.append_nil.{0}
 <| And.intro @List.cons_append.{0}
 <| And.intro @List.length_cons.{0}
 <| And.intro @List.length_nil.{0}
 <| And.intro @List.getElem?_cons_zero.{0}
 <| And.intro @List.getElem?_cons_succ.{0}
 <| And.intro @Option.map_some.{0,0}
 <| And.intro @Option.map_none.{0,0}
 <| And.intro @Option.bind_some.{0,0}
 <| And.intro @cond_true.{1}
 <| And.intro @cond_false.{1}
 <| And.intro @Nat.zero_add
 <| And.intro @Nat.add_zero
 <| And.intro @true_and
 <| And.intro @and_true
 <| And.intro @Int.zero_sub
 <| And.intro @Int.neg_zero
 <| And.intro @Int.sub_zero
 <| And.intro @and_self
 <| And.intro @List.getElem?_toArray.{0}
 <| And.intro @List.getD_cons_zero.{0}
 <| And.intro @List.getD_cons_succ.{0}
 <| And.intro @List.all_cons.{0}
 <| And.intro @List.all_nil.{0}
 <| And.intro @Bool.and_true
 <| And.intro @Bool.true_and
 <| And.intro @Bool.and_self
 <| And.intro @List.take_zero.{0}
 <| And.intro @List.drop_zero.{0}
 <| And.intro @eqv_tt
 <| And.intro @eqv_tf
 <| And.intro @eqv_ft
 <| And.intro @eqv_ff
 <| And.intro @Bool.not_true
 <| And.intro @Bool.not_false
 <| And.intro @Bool.false_eq_true
 <| And.intro @Bool.true_eq_false
 <| And.intro @Option.some.injEq.{0}
 <| And.intro @eq_self.{1}
 <| And.intro @ne_eq.{1}
 <| And.intro @not_false_eq_true
 <| And.intro @Nat.one_ne_zero
 <| And.intro @List.take_succ_cons.{0}
 <| And.intro @List.take_nil.{0}
 <| And.intro @List.drop_succ_cons.{0}
 <| And.intro @List.drop_nil.{0}
 <| And.intro @List.set_cons_zero.{0}
 <| And.intro @List.set_cons_succ.{0}
 <| @List.set_nil.{0}
end Go.Pv
namespace Go.Pv
open Go.RowKit Go.ChangeShapes Go.WideShapes
section
variable {H:Type} {enc:TypeId × Value→H} {P:Program}
theorem args_stay (hl:laidOutB P=true) {W W' : World} {sp:Nat→Bool} (hb:Below W.heap.size W W'):∀ {ts:List TypeId} {vs:List Value} {ds:List (DataW H)} {ps:List MemPlace},(ts.all fun t=>P.readableRec t && decide (t < P.types.size))=true →
  DataW.TrodAll enc P W 0 (fun _=>true) true ts vs ds ps→(∀ x∈ps,x.block < W.heap.size)→(∀ x∈ps,sp x.block=true)→DataW.TrodAll enc P W' 0 sp true ts vs ds ps
 | [],vs,ds,ps,_,h,_,_=>by
  obtain ⟨rfl,rfl,rfl⟩:=trodAll_nil h
  exact trodAll_mk0
 | t :: ts,vs,ds,ps,ht,h,hlt,hs=>by
  obtain ⟨v,vs',d,ds',p,q,rfl,rfl,rfl,h0,h1⟩:=trodAll_cons h
  simp only [List.all_cons,Bool.and_eq_true,decide_eq_true_eq] at ht
  refine trodAll_cons_mk (WideElems.Trod_stays hl ht.1.1 ht.1.2 h0 (fun x hx=>hb.same (hlt x (by simp [hx]))) fun x hx=>hs x (by simp [hx])) (args_stay hl hb ht.2 h1 (fun x hx=>hlt x (by simp [hx])) fun x hx=>hs x (by simp [hx]))
theorem law_post (hl:laidOutB P=true) {f:Func} {s:ChangeSpec} {W W' : World} {args:Array Value} {ds gs:List (DataW H)} {before:List MemPlace} {tb:TypeId} (hvars:s.vars=[]) (hr:f.resultTypes = #[tb]) (hb:P.underlying tb=some .bool)
  (hts:(f.params.toList.all fun t=>P.readableRec t && decide (t < P.types.size))=true) (hW:DataW.Whole enc P f.params.toList s.vars false W args.toList ds gs before)
  (hfn:ds.length=f.params.toList.length→s.fn H (ds++[]) = { results:=[.lit (.bool true)],args:=ds }) (hbl:Below W.heap.size W W'):s.post enc P f false true false false W args (.bool true) W':=by
 have hW':=hW
 obtain ⟨p,q,hA,hV,rfl,hfz,hnd⟩:=hW
 rw [hvars] at hV
 obtain ⟨rfl,rfl⟩:=trodVars_none hV
 have hlen:ds.length=f.params.toList.length:=(trodAll_length hA).2
 have hf:=hfn hlen
 have hlt:∀ x∈p,x.block < W.heap.size:=fun x hx=>by simpa using hW'.lt x (by simp [hx])
 have hold:∀ x∈p++[],(fun b=>decide (b < W.heap.size)) x.block=true:=fun x hx=>by simpa using hW'.lt x hx
 have hres:∀ (b:Nat) (sp:Nat→Bool) (hd:Bool),DataW.TrodAll enc P W' b sp hd f.resultTypes.toList ((Value.bool true).resultList f.resultTypes.size) (s.fn H (ds++[])).results []:=by
  intro b sp hd
  rw [hf,hr]
  exact trodAll_mk1 (shut_bool hb _)
 have hargs:∀ sp:Nat→Bool,(∀ x∈p++[],sp x.block=true)→DataW.TrodAll enc P W' 0 sp true f.params.toList args.toList (s.fn H (ds++[])).args p:=by
  intro sp hsp
  rw [hf]
  exact args_stay hl hbl hts hA hlt fun x hx=>hsp x (by simp [hx])
 have hvs:∀ sp:Nat→Bool,DataW.TrodVars enc P W' sp s.vars (s.fn H (ds++[])).vars []:=by
  intro sp
  rw [hvars,hf]; rfl
 refine ⟨ds,[],p++[],[],p,[],hW',hres _ _ _,hargs _ hold,hvs _,World.keptBut_mono (fun x hx=>⟨hx,?_⟩) (hbl.frame (·∈p++[])),fun _=>?_⟩
 ·exact Or.inr (by simpa using hx)
 refine ⟨ok_one hr rfl (okWide_bool_mk hb _),_,_,([]++p)++[],⟨[]++p,[],trodAll_append (hargs _ (fun _ _=>rfl)) (hres _ _ _),hvs _,rfl,?_,?_⟩,?_⟩
 ·intro b off hp
  rw [hbl.frozen (p:=⟨b,off,none⟩) (hlt (.cell b off) (by simpa using hp))]
  exact hfz b off (by simpa using hp)
 ·intro ha
  have:=hnd ha
  simpa using this
 intro x hx _
 simpa using hx
end
end Go.Pv
namespace Go.Pv
open Go.RowKit Go.ChangeShapes Go.WideShapes
def gp (n:Int) (m:List Int):PV:=.agg [.int .i64 n,.list (il m)]
section
variable {H:Type} {enc:TypeId × Value→H} {P:Program}
theorem il_of_trod {t e:TypeId} {W:World} {fuel:Nat} {cs:List Value} {x:DataW H × List MemPlace} (ht:P.underlying t=some (.slice e)) (he:P.underlying e=some (.int .i64)) (hc:P.cellsOf e=1)
  (hby:P.bytesOf e=8) (hf:DataW.trod enc P W 0 (fun _=>true) true fuel t cs=some x) (hw:(x.1.weights P t).all (·≤reachBytes)=true) :
  ∃ (xs:List Int) (v:Value),cs=[v]∧(∀ x∈xs,In64 x)∧xs.length≤17592186043904∧Reads (fun b=>b < W.heap.size) W (.list (il xs)) v:=by
 rcases open_ints ht he hc hf with ⟨rfl,rfl⟩ | ⟨a,len0,cap0,zs,rfl,_,hle,hmax,hall,rfl,hcell,hwf⟩
 ·exact ⟨[],_,rfl,fun x hx=>by simp at hx,Nat.zero_le _,.list0 none 0 fun _=>rfl⟩
 simp only [DataW.weights,ht,hby,List.all_cons,Bool.and_eq_true,decide_eq_true_eq] at hw
 have hbig:(zs.take len0).length * 8≤reachBytes:=by
  have e1:∀ l:List Int,(lits (H:=H) .i64 l).length=l.length:=fun l=>by simp [lits]
  have:=hw.1
  rw [e1,e1] at this
  omega
 unfold reachBytes at hbig
 simp only [if_true] at hall
 have hlen:(zs.take len0).length=len0:=by simp; omega
 refine ⟨zs.take len0,_,rfl,fun x hx=>?_,by omega,?_⟩
 ·have:=hwf x (List.mem_of_mem_take hx)
  simp [Lit.wf,IntKind.min,IntKind.max,IntKind.signed,IntKind.bits] at this
  exact ⟨by omega,by omega⟩
 by_cases h0:len0=0
 ·subst h0
  exact .list0 _ _ fun h=>by cases h
 obtain ⟨b,off,rfl,hcell'⟩:=ints_at (w:=W) hcell (by omega)
 have hone:∀ x∈il (zs.take len0),x.cells.length=1:=by
  intro x hx
  obtain ⟨y,_,rfl⟩:=List.mem_map.1 hx
  rfl
 have hfl:flat (il (zs.take len0))=il (zs.take len0):=flat_all_one (il_all _)
 have:=Reads.list (ok:=fun b=>b < W.heap.size) (w:=W) (il (zs.take len0)) b off cap0 1 (fun j=>.int .i64 (zs.getD j 0)) ?_ hone (by rw [il_length,hlen]; exact hle) (fun c hcl=>?_) (fun c hcl=>?_)
 ·rwa [il_length,hlen] at this
 ·have:=hcell' 0 (by omega)
  simp only [World.cell?] at this
  by_cases hb:b < W.heap.size
  ·exact hb
  rw [Array.getElem?_eq_none (by omega)] at this
  simp at this
 ·rw [hfl,il_length,hlen] at hcl
  exact hcell' c (by omega)
 simp only [hfl]
 have hcl2:c < len0:=by rw [hfl,il_length,hlen] at hcl; exact hcl
 have e:(il (zs.take len0))[c]'(by rw [il_length,hlen]; exact hcl2) = .int .i64 (zs.getD c 0):=by
  simp [il,List.getD,List.getElem?_eq_getElem (show c < zs.length by omega)]
 rw [e]
 exact .int _ _
theorem open_gp {t tl ti:TypeId} {W:World} {base:Nat} {v:Value} {d:DataW H} {p:List MemPlace} {f0 f1:Field} (ht:P.underlying t=some (.struct #[f0,f1])) (hf0:f0.type=ti) (hf1:f1.type=tl) (ho0:f0.offset=0) (ho1:f1.offset=1)
  (hct:P.cellsOf t=2) (hcl:P.cellsOf tl=1) (htl:P.underlying tl=some (.slice ti)) (hti:P.underlying ti=some (.int .i64)) (hc:P.cellsOf ti=1)
  (hby:P.bytesOf ti=8) (hval:Value.okWide P W .any base t v) (h:DataW.Trod enc P W 0 (fun _=>true) true t v d p) (hw:(d.weights P t).all (·≤reachBytes)=true) :
  ∃ (n:Int) (xs:List Int),In64 n∧(∀ x∈xs,In64 x)∧xs.length≤17592186043904∧Reads (fun b=>b < W.heap.size) W (gp n xs) v:=by
 obtain ⟨cs,rfl,hsz⟩:=okWide_struct ht hval
 obtain ⟨fuel,hf⟩:=h
 obtain ⟨y0,y1,m,hx,hl,h0,h1⟩:=trod_struct2 ht hf
 simp only [Prod.mk.injEq] at hx
 obtain ⟨rfl,rfl⟩:=hx
 subst hf0 hf1
 simp only [DataW.weights,ht,List.map_cons,List.map_nil,DataW.weightsEach,List.append_nil,List.all_append,Bool.and_eq_true] at hw
 rw [ho0,hc,List.drop_zero] at h0
 rw [ho1,hcl] at h1
 obtain ⟨n,hcs0,_,hwf⟩:=DataW.trod_int hti h0
 obtain ⟨xs,v1,hcs1,g1,g2,g3⟩:=il_of_trod htl hti hc hby h1 hw.2
 rw [hct] at hsz hl
 simp only [Value.cells] at hcs0 hcs1 hl
 simp [Lit.wf,IntKind.min,IntKind.max,IntKind.signed,IntKind.bits] at hwf
 have c0:cs.toList[0]? = some (.int .i64 n):=by
  have:=congrArg (fun l=>l[0]?) hcs0
  simpa using this
 have c1:cs.toList[1]? = some v1:=by
  have:=congrArg (fun l=>l[0]?) hcs1
  simpa using this
 have hc0:cs.getD 0 undef = .int .i64 n:=by
  rw [Array.getElem?_toList] at c0
  rw [Array.getD_eq_getD_getElem?,c0]; rfl
 have hc1:cs.getD 1 undef=v1:=by
  rw [Array.getElem?_toList] at c1
  rw [Array.getD_eq_getD_getElem?,c1]; rfl
 refine ⟨n,xs,⟨by omega,by omega⟩,g1,g2,.agg _ _ (by rw [hsz]; rfl) fun c hc=>?_⟩
 match c,hc with
 | 0,_=>rw [hc0]; exact .int _ _
 | 1,_=>rw [hc1]; exact g3
 | c + 2,hc=>exact absurd hc (by simp)
end
theorem ieq (a b:Int):(a == b)=decide (a=b):=rfl
theorem ine (a b:Int):(a != b) = !decide (a=b):=rfl
theorem deq_self (a:Int):decide (a=a)=true:=by simp
theorem bnot_t:(!true)=false:=rfl
theorem bnot_f:(!false)=true:=rfl
theorem band_t (b:Bool):(true && b)=b:=rfl
theorem band_f (b:Bool):(false && b)=false:=rfl
end Go.Pv
namespace Go.Pv
theorem ise0:(#[]:Array Operand).isEmpty=true:=rfl
def evA:=And.intro @aops.eq_1
 <| And.intro @aops.eq_2
 <| And.intro @aops.eq_3
 <| And.intro @xstep.eq_1
 <| And.intro @guardA.eq_1
 <| And.intro @opA.eq_1
 <| And.intro @opA.eq_2
 <| And.intro @opA.eq_3
 <| And.intro @opA.eq_4
 <| And.intro @opA.eq_5
 <| And.intro @opA.eq_6
 <| And.intro @opA.eq_7
 <| And.intro @opA.eq_8
 <| And.intro @opA.eq_9
 <| And.intro @opA.eq_10
 <| And.intro @opA.eq_11
 <| And.intro @opA.eq_12
 <| And.intro @opA.eq_13
 <| And.intro @opA.eq_14
 <| And.intro @opA.eq_15
 <| And.intro @opA.eq_16
 <| And.intro @opA.eq_17
 <| And.intro @opA.eq_18
 <| And.intro @opA.eq_19
 <| And.intro @opA.eq_20
 <| And.intro @opA.eq_21
 <| And.intro @opA.eq_22
 <| And.intro @opA.eq_23
 <| And.intro @opA.eq_24
 <| And.intro @opA.eq_25
 <| And.intro @opA.eq_26
 <| And.intro @indexA.eq_1
 <| And.intro @nilA.eq_1
 <| And.intro @nilA.eq_2
 <| And.intro @makeMapA.eq_1
 <| And.intro @keyA.eq_1
 <| And.intro @keyA.eq_2
 <| And.intro @mapUpdateA.eq_1
 <| And.intro @lookupA.eq_1
 <| And.intro @binA.eq_1
 <| And.intro @binA.eq_2
 <| And.intro @binA.eq_3
 <| And.intro @binA.eq_4
 <| And.intro @binA.eq_5
 <| And.intro @binA.eq_6
 <| And.intro @binA.eq_7
 <| And.intro @binA.eq_8
 <| And.intro @binA.eq_9
 <| And.intro @binA.eq_10
 <| And.intro @binA.eq_11
 <| And.intro @binA.eq_12
 <| And.intro @binA.eq_13
 <| And.intro @binA.eq_14
 <| And.intro @binA.eq_15
 <| And.intro @binA.eq_16
 <| And.intro @binA.eq_17
 <| And.intro @binA.eq_18
 <| And.intro @binA.eq_19
 <| And.intro @binA.eq_20
 <| And.intro @binA.eq_21
 <| And.intro @binA.eq_22
 <| And.intro @binA.eq_23
 <| And.intro @binA.eq_24
 <| And.intro @binA.eq_25
 <| And.intro @binInt.eq_1
 <| And.intro @binInt.eq_2
 <| And.intro @binInt.eq_3
 <| And.intro @binInt.eq_4
 <| And.intro @binInt.eq_5
 <| And.intro @binInt.eq_6
 <| And.intro @binInt.eq_7
 <| And.intro @binInt.eq_8
 <| And.intro @binInt.eq_9
 <| And.intro @binInt.eq_10
 <| And.intro @binInt.eq_11
 <| And.intro @binInt.eq_12
 <| And.intro @binInt.eq_13
 <| And.intro @binInt.eq_14
 <| And.intro @binInt.eq_15
 <| And.intro @binInt.eq_16
 <| And.intro @binInt.eq_17
 <| And.intro @arith.eq_1
 <| And.intro @arith.eq_2
 <| And.intro @arith.eq_3
 <| And.intro @unA.eq_1
 <| And.intro @unA.eq_2
 <| And.intro @unA.eq_3
 <| And.intro @unA.eq_4
 <| And.intro @unA.eq_5
 <| And.intro @unA.eq_6
 <| And.intro @pickA.eq_1
 <| And.intro @pickA.eq_2
 <| And.intro @pickA.eq_3
 <| And.intro @convA.eq_1
 <| And.intro @convA.eq_2
 <| And.intro @allocA.eq_1
 <| And.intro @boxA.eq_1
 <| And.intro @loadA.eq_1
 <| And.intro @loadA.eq_2
 <| And.intro @loadA.eq_3
 <| And.intro @storeA.eq_1
 <| And.intro @storeA.eq_2
 <| And.intro @fieldAddrA.eq_1
 <| And.intro @fieldA.eq_1
 <| And.intro @indexAddrA.eq_1
 <| And.intro @indexAddrA.eq_2
 <| And.intro @lenA.eq_1
 <| And.intro @lenA.eq_2
 <| And.intro @lenS.eq_1
 <| And.intro @lenS.eq_2
 <| And.intro @lenS.eq_3
 <| And.intro @lenS.eq_4
 <| And.intro @lenS.eq_5
 <| And.intro @lenS.eq_6
 <| And.intro @sliceA.eq_1
 <| And.intro @boundA.eq_1
 <| And.intro @boundA.eq_2
 <| And.intro @boundA.eq_3
 <| And.intro @makeSliceA.eq_def
 <| And.intro @ise0
 <| And.intro @elemsA.eq_1
 <| And.intro @elemsA.eq_2
 <| And.intro @elemsA.eq_3
 <| And.intro @elemsA.eq_4
 <| And.intro @elemsA.eq_5
 <| And.intro @appendA.eq_1
 <| And.intro @buildA.eq_1
 <| And.intro @fillA.eq_1
 <| And.intro @fillA.eq_2
 <| And.intro @buildSliceA.eq_1
 <| And.intro @partsA.eq_1
 <| And.intro @partsA.eq_2
 <| And.intro @partsA.eq_3
 <| And.intro @extractA.eq_1
 <| And.intro @extractA.eq_2
 <| And.intro @extractA.eq_3
 <| And.intro @builtinA.eq_1
 <| And.intro @builtinA.eq_2
 <| And.intro @builtinA.eq_3
 <| And.intro @builtinA.eq_4
 <| And.intro @builtinA.eq_5
 <| And.intro @minmaxA.eq_1
 <| And.intro @minmaxA.eq_2
 <| And.intro @AV.cells.eq_1
 <| And.intro @AV.cells.eq_2
 <| And.intro @AV.cells.eq_3
 <| And.intro @AV.isAgg.eq_1
 <| And.intro @AV.isAgg.eq_2
 <| And.intro @AV.isAgg.eq_3
 <| And.intro @allP.eq_1
 <| And.intro @allP.eq_2
 <| And.intro @allP.eq_3
 <| And.intro @mkAgg.eq_1
 <| And.intro @hget.eq_1
 <| And.intro @hget.eq_2
 <| And.intro @hget.eq_3
 <| And.intro @hset.eq_1
 <| And.intro @hset.eq_2
 <| And.intro @hset.eq_3
 <| And.intro @isRow.eq_1
 <| And.intro @isRow.eq_2
 <| And.intro @isRow.eq_3
 <| And.intro @isRow.eq_4
 <| And.intro @cellOk.eq_1
 <| And.intro @cellOk.eq_2
 <| And.intro @cellOk.eq_3
 <| And.intro @cellOk.eq_4
 <| And.intro @cellOk.eq_5
 <| And.intro @cellOk.eq_6
 <| And.intro @cellOk.eq_7
 <| And.intro @setC.eq_1
 <| And.intro @setC.eq_2
 <| And.intro @after.eq_1
 <| And.intro @dstOk.eq_1
 <| And.intro @dstOk.eq_2
 <| And.intro @St.put.eq_1
 <| And.intro @St.put.eq_2
 <| And.intro @St.get.eq_1
 <| And.intro @lk.eq_1
 <| And.intro @lk.eq_2
 <| And.intro @St.ev.eq_1
 <| And.intro @St.ev.eq_2
 <| And.intro @St.ev.eq_3
 <| And.intro @St.ev.eq_4
 <| And.intro @cv.eq_1
 <| And.intro @cv.eq_2
 <| And.intro @cv.eq_3
 <| And.intro @cv.eq_4
 <| And.intro @cv.eq_5
 <| And.intro @PV.one.eq_1
 <| And.intro @PV.one.eq_2
 <| And.intro @PV.one.eq_3
 <| And.intro @entry.eq_1
 <| And.intro @ent.eq_1
 <| And.intro @ent.eq_2
 <| And.intro @capA.eq_1
 <| And.intro @capA.eq_2
 <| And.intro @capA.eq_3
 <| And.intro @capsA.eq_1
 <| And.intro @capsA.eq_2
 <| @makeFuncA.eq_1
def nhs:=And.intro @Bool.not_eq_true'
 <| And.intro @Bool.not_eq_false'
 <| And.intro @Bool.not_eq_true
 <| And.intro @Bool.not_eq_false
 <| And.intro @Bool.and_eq_true
 <| And.intro @Bool.and_eq_false_iff
 <| And.intro @Bool.or_eq_true
 <| And.intro @Bool.or_eq_false_iff
 <| And.intro @decide_eq_true_eq
 <| And.intro @decide_eq_false_iff_not
 <| @Decidable.not_not
def leq:=And.intro @AV.p.injEq
 <| And.intro @AV.sl.injEq
 <| And.intro @AV.ptr.injEq
 <| And.intro @Blk.own.injEq
 <| And.intro @PV.int.injEq
 <| And.intro @PV.bool.injEq
 <| And.intro @PV.list.injEq
 <| And.intro @Nat.sub_zero
 <| And.intro @Int.natCast_add
 <| And.intro @List.length_append.{0}
 <| And.intro @take_take_len
 <| And.intro @take_app1
 <| And.intro @take_app2
 <| And.intro @List.nodup_cons.{0}
 <| And.intro @List.nodup_nil.{0}
 <| And.intro @List.mem_cons.{0}
 <| And.intro @List.not_mem_nil.{0}
 <| And.intro @or_false
 <| @not_false_eq_true
def leA:=And.intro @Le.eq_1
 <| And.intro @LeH.eq_1
 <| And.intro @LeH.eq_2
 <| And.intro @LeH.eq_3
 <| And.intro @LeS.eq_1
 <| And.intro @LeS.eq_2
 <| And.intro @LeB.eq_1
 <| And.intro @LeB.eq_2
 <| And.intro @LeB.eq_3
 <| And.intro @LeB.eq_4
 <| And.intro @LeB.eq_5
 <| And.intro @LeB.eq_6
 <| And.intro @ren.eq_1
 <| And.intro @ren.eq_2
 <| And.intro @ren.eq_3
 <| And.intro @ren.eq_4
 <| And.intro @ren.eq_5
 <| And.intro @ren1.eq_1
 <| And.intro @ren1.eq_2
 <| And.intro @ren1.eq_3
 <| And.intro @ren1.eq_4
 <| And.intro @ren1.eq_5
 <| And.intro @scA.eq_1
 <| And.intro @scA.eq_2
 <| And.intro @scA.eq_3
 <| And.intro @scA.eq_4
 <| And.intro @scA.eq_5
 <| And.intro @sc1.eq_1
 <| And.intro @sc1.eq_2
 <| And.intro @sc1.eq_3
 <| And.intro @sc1.eq_4
 <| And.intro @sc1.eq_5
 <| And.intro @sc1.eq_6
 <| And.intro @sc1.eq_7
 <| And.intro @sc1.eq_8
 <| @sc1.eq_9
def enA:=And.intro @Post.eq_1
 <| And.intro @Post.eq_2
 <| And.intro @Post.eq_3
 <| And.intro @endA.eq_1
 <| And.intro @rvsA.eq_1
 <| And.intro @rvsA.eq_2
 <| And.intro @rvA.eq_1
 <| And.intro @rvA.eq_2
 <| And.intro @mkTup.eq_1
 <| And.intro @mkTup.eq_2
 <| And.intro @peekA.eq_1
 <| And.intro @peekA.eq_2
 <| And.intro @peekG.eq_1
 <| And.intro @peekG.eq_2
 <| And.intro @peekG.eq_3
 <| And.intro @peekS.eq_1
 <| And.intro @peekS.eq_2
 <| And.intro @peekS.eq_3
 <| And.intro @peekS.eq_4
 <| And.intro @peekList.eq_1
 <| And.intro @peekList.eq_2
 <| And.intro @PV.norm.eq_1
 <| And.intro @PV.norm.eq_2
 <| And.intro @PV.norm1.eq_1
 <| And.intro @PV.norm1.eq_2
 <| And.intro @PV.norm0.eq_1
 <| And.intro @PV.norm0.eq_2
 <| And.intro @PV.norm0.eq_3
 <| And.intro @PV.norm0.eq_4
 <| And.intro @PV.list.injEq
 <| And.intro @PV.tup.injEq
 <| And.intro @PV.agg.injEq
 <| And.intro @PV.int.injEq
 <| And.intro @PV.bool.injEq
 <| @List.cons.injEq.{0}
def evB:=And.intro @ieq
 <| And.intro @ine
 <| And.intro @deq_self
 <| And.intro @bnot_t
 <| And.intro @bnot_f
 <| And.intro @band_t
 <| And.intro @band_f
 <| And.intro @Int.cast_ofNat_Int
 <| And.intro @decide_true
 <| And.intro @decide_false
 <| And.intro @beq_self_eq_true.{0}
 <| And.intro @bne_self_eq_false.{0}
 <| And.intro @ite_true.{1}
 <| And.intro @ite_false.{1}
 <| And.intro @if_true.{1}
 <| @if_false.{1}
end Go.Pv
namespace Go.Pv
open Go.RowKit
section
variable {P:Program} {T:TypeId→Option TI} {C:Ctx} {m:Map} {s:St} {tmps:Array Value} {w:World} {Q:Exit→St→Prop}
theorem Rel.cells (R:Rel C m s tmps w) {k:Nat} {c c' : List AV} (hk:hget s.H k = .own c) (hl:c'.length=c.length)
  (hc:∀ j (h:j < c.length) (h' : j < c'.length) v,AVal (Reads (OK C m s.H w) w) m s.H c[j] v→AVal (Reads (OK C m s.H w) w) m s.H c'[j] v):Rel C m { s with H:=hset s.H k (.own c') } tmps w:=by
 have hk:=hget_mut hk
 have hkl:k < s.H.length:=(List.getElem?_eq_some_iff.1 hk).1
 have hget:∀ (j:Nat) (b:Blk),(hset s.H k (.own c'))[j]? = some b→(j=k∧b = .own c')∨(j ≠ k∧s.H[j]? = some b):=by
  intro j b h
  rw [hset_get] at h
  by_cases e:j=k
  ·rw [if_pos ⟨e,hkl⟩] at h; exact .inl ⟨e,(Option.some.inj h).symm⟩
  rw [if_neg (by simp [e])] at h; exact .inr ⟨e,h⟩
 have own:∀ (j:Nat) (d:List AV),(hset s.H k (.own c'))[j]? = some (.own d)→∃ d',s.H[j]? = some (.own d'):=by
  intro j d h
  rcases hget j _ h with ⟨rfl,h⟩ | h
  ·exact ⟨c,hk⟩
  exact ⟨d,h.2⟩
 have hok:∀ b,OK C m s.H w b→∀ j d l,(hset s.H k (.own c'))[j]? = some (.own d)→m j=some l→l.g ≠ b:=fun b hb j d l h hl=>by
  obtain ⟨d',h'⟩:=own j d h
  exact hb.2.2 j d' l h' hl
 have ho:∀ b,OK C m s.H w b→OK C m (hset s.H k (.own c')) w b:=fun b h=>⟨h.1,h.2.1,hok b h⟩
 refine R.heap (BelowP.refl _ _) (by simp [hset_length]) (fun _ _=>rfl) hok (fun _ _=>rfl) ?_ ?_ ?_ (mp_hset rfl)
 ·intro j j' c1 c2 l1 l2 h1 h2 h3 h4 h5
  obtain ⟨d1,g1⟩:=own j c1 h1
  obtain ⟨d2,g2⟩:=own j' c2 h2
  exact R.inj j j' d1 d2 l1 l2 g1 g2 h3 h4 h5
 ·intro j d h
  rcases hget j _ h with ⟨rfl,h'⟩ | ⟨hne,h⟩
  ·cases h'
   rcases R.blk j c hk with ⟨hc0,hn⟩ | ⟨l,cur,e,hl2,hB,hg,h1,h2,h3,hcells⟩
   ·subst hc0
    exact .inl ⟨List.eq_nil_of_length_eq_zero (by simpa using hl),hn⟩
   refine .inr ⟨l,cur,e,hl2,hB,hg,h1,h2,by omega,fun i hi=>?_⟩
   exact (hc i (by omega) hi _ (hcells i (by omega))).ext (fun p v h=>h.ext ho fun _ _=>rfl) (by simp [hset_length]) fun _ _=>rfl
  exact (R.blk j d h).ext (fun p v h=>h.ext ho fun _ _=>rfl) (by simp [hset_length]) (fun _ _=>rfl) rfl fun _ _=>rfl
 intro j d h
 rcases hget j _ h with ⟨rfl,h'⟩ | ⟨hne,h⟩
 ·cases h'
 exact (R.fro j d h).ext ho (fun _ _=>rfl) rfl
theorem hk_cells {c:Code} (k:Nat) {b b' : List AV} (hk:hget s.H k = .own b) (hl:b'.length=b.length)
  (hc:∀ C m tmps w,Rel C m s tmps w→∀ j (h:j < b.length) (h' : j < b'.length) v,AVal (Reads (OK C m s.H w) w) m s.H b[j] v→AVal (Reads (OK C m s.H w) w) m s.H b'[j] v)
  (h:Holds P c Q { s with H:=hset s.H k (.own b') }):Holds P c Q s:=
 fun r ds C m a w R hd=>h r ds C m a w (R.cells hk hl (hc C m a.tmps w R)) hd
theorem hk_own0c {c:Code} (k j:Nat) {b:List AV} (hk:hget s.H k = .own b) (hj:b[j]? = some (.p .nil)) (h:Holds P c Q { s with H:=hset (s.H++[.own []]) k (.own (b.set j (.sl s.H.length 0 0))) }):Holds P c Q s:=by
 intro r ds C m a w R hd
 have R':=R.newNil
 have hk' : hget (s.H++[.own []]) k = .own b:=by
  have h1:=hget_mut hk
  have key:∀ (H:Heap) (k:Nat) (b:Blk) (H2:Heap),H[k]? = some b→hget (H++H2) k=b:=by
   intro H
   induction H with
   | nil=>intro k b H2 h; simp at h
   | cons x r ih =>
    intro k b H2 h
    cases k with
    | zero=>simp at h; exact h
    | succ k=>exact ih k b H2 (by simpa using h)
  exact key _ _ _ _ h1
 refine h r ds C _ a w (R'.cells (s:={ s with H:=s.H++[.own []] }) hk' (by simp) fun i hi hi' v hv=>?_) hd
 by_cases e:j=i
 ·subst e
  rw [List.getElem_set_self]
  have hb:b[j] = .p .nil:=by
   rw [List.getElem?_eq_getElem hi] at hj
   exact Option.some.inj hj
  rw [hb] at hv
  have:=hv.p_inv.nil_inv
  subst this
  exact .sl _ _ _ _ (by simp) <| .inl ⟨rfl,none,rfl⟩
 rw [List.getElem_set_ne e]
 exact hv
theorem hk_purec {c:Code} (k j:Nat) {b:List AV} {x:AV} (hk:hget s.H k = .own b) (hj:b[j]? = some x) {p:Prop} {pv:PV} (hx:peekS s.H x=some (p,pv,true)) (hp:p)
  (h:Holds P c Q { s with H:=hset s.H k (.own (b.set j (.p pv))) }):Holds P c Q s:=by
 refine hk_cells k hk (by simp) (fun C m tmps w R i hi hi' v hv=>?_) h
 by_cases e:j=i
 ·subst e
  rw [List.getElem_set_self]
  have hb:b[j]=x:=by
   rw [List.getElem?_eq_getElem hi] at hj
   exact Option.some.inj hj
  rw [hb] at hv
  exact .p _ _ ((peekS_val R hv hx hp).2 rfl)
 rw [List.getElem_set_ne e]
 exact hv
end
def opl (l:List PV):List AV:=l.map .p
theorem opl_length (l:List PV):(opl l).length=l.length:=by simp [opl]
theorem opl_take (l:List PV) (n:Nat):(opl l).take n=opl (l.take n):=by simp [opl]
theorem opl_drop (l:List PV) (n:Nat):(opl l).drop n=opl (l.drop n):=by simp [opl]
theorem opl_append (l r:List PV):opl l++opl r=opl (l++r):=by simp [opl]
theorem opl_snoc (l:List PV) (x:PV):opl l++[.p x]=opl (l++[x]):=by simp [opl]
theorem opl_ren (l:List PV) (π:List Nat):(opl l).map (Go.Pv.ren π)=opl l:=by simp [opl,Go.Pv.ren,ren1]
theorem opl_sc (l:List PV) (n:Nat):(opl l).all (scA n)=true:=by simp [opl,scA,sc1]
theorem opl_allP (l:List PV):allP (opl l)=some l:=by
 unfold opl
 induction l with
 | nil=>rfl
 | cons x r ih=>simp [allP,ih]
theorem opl_ok {l:List PV} (h:l.all PV.one=true):(opl l).all cellOk=true:=by
 unfold opl
 rw [List.all_map]
 exact h
theorem oll_ok (r:List (List Int)):(opl (ll r)).all cellOk=true:=opl_ok (ll_all r)
theorem ll_snoc (r:List (List Int)) (x:List Int):ll r++[.list (il x)]=ll (r++[x]):=by simp [ll]
def evP:=And.intro @opl_length
 <| And.intro @opl_take
 <| And.intro @opl_drop
 <| And.intro @opl_append
 <| And.intro @opl_snoc
 <| And.intro @opl_ren
 <| And.intro @opl_sc
 <| And.intro @opl_allP
 <| And.intro @oll_ok
 <| And.intro @ll_snoc
 <| And.intro @ll_length
 <| And.intro @ll_all
 <| @ll_cells
def evz := And.intro ev0 <| And.intro evA <| And.intro evB evP
theorem hget_hset_same:∀ (H:Heap) (k:Nat) (b:Blk),k < H.length→hget (hset H k b) k=b
 | [],k,b,h=>by simp at h
 | x :: r,0,b,h=>rfl
 | x :: r,k + 1,b,h=>hget_hset_same r k b (by simpa using h)
theorem hk_sealp {P:Program} {s:St} {c:Code} {Q:Exit→St→Prop} (t k:Nat) {l:List PV} (hone:l.all PV.one=true) (h1:s.get t = .sl k 0 l.length) (h2:hget s.H k = .own (opl l)) (h:Holds P c Q { s with sl:=(t,.p (.list l)) :: s.sl,H:=hset s.H k (.fro l) }):Holds P c Q s:=by
 refine hk_freeze k h2 (opl_allP l) (hk_pure (s:={ s with H:=hset s.H k (.fro l) }) t (p:=0 + l.length≤l.length∧((l.drop 0).take l.length).all PV.one=true) (pv:=.list ((l.drop 0).take l.length)) ?_ ?_ ?_)
 ·have e:({ s with H:=hset s.H k (.fro l) } : St).get t = .sl k 0 l.length:=h1
  rw [e]
  have hk:=hget_mut h2
  have hkl:k < s.H.length:=(List.getElem?_eq_some_iff.1 hk).1
  simp only [peekG,peekS,hget_hset_same _ _ _ hkl]
 ·simp only [List.drop_zero,take_len]
  exact ⟨by omega,hone⟩
 simp only [List.drop_zero,take_len]
 exact h
end Go.Pv
namespace Go.Pv
open Go.RowKit
inductive NoRef (κ:Nat):AV→Prop
 | dead:NoRef κ .dead
 | p (v:PV):NoRef κ (.p v)
 | sl (k lo len:Nat) (h:k ≠ κ):NoRef κ (.sl k lo len)
 | ptr (k i:Nat) (h:k ≠ κ):NoRef κ (.ptr k i)
 | mptr (k:Nat) (h:k ≠ κ):NoRef κ (.mptr k)
 | yv (k:Nat) (l:List AV) (vs:Array Value) (h:k ≠ κ) (h2:∀ c (h:c < l.length),NoRef κ l[c]):NoRef κ (.yv k l vs)
 | agg (l:List AV) (h:∀ c (h:c < l.length),NoRef κ l[c]):NoRef κ (.agg l)
 | tup (l:List AV) (h:∀ c (h:c < l.length),NoRef κ l[c]):NoRef κ (.tup l)
 | cl (f:FuncId) (l:List AV) (h:∀ c (h:c < l.length),NoRef κ l[c]):NoRef κ (.cl f l)
 | itv (r:Nat):NoRef κ (.itv r)
 | sls (k lo len sz:Nat) (h:k ≠ κ):NoRef κ (.sls k lo len sz)
def nr1 (κ:Nat):AV→Bool
 | .sl k _ _=>k != κ
 | .sls k _ _ _=>k != κ
 | .ptr k _=>k != κ
 | .mptr k=>k != κ
 | .agg _=>false
 | .tup _=>false
 | .cl _ _=>false
 | .yv _ _ _=>false
 | _=>true
def nrA (κ:Nat):AV→Bool
 | .agg l=>l.all (nr1 κ)
 | .tup l=>l.all (nr1 κ)
 | .cl _ l=>l.all (nr1 κ)
 | .yv k l _=>(k != κ) && l.all (nr1 κ)
 | x=>nr1 κ x
theorem nr1_spec {κ:Nat} {x:AV} (h:nr1 κ x=true):NoRef κ x:=by
 cases x with
 | dead=>exact .dead
 | p v=>exact .p v
 | sl k lo len=>exact .sl _ _ _ (by simpa [nr1] using h)
 | ptr k i=>exact .ptr _ _ (by simpa [nr1] using h)
 | mptr k=>exact .mptr _ (by simpa [nr1] using h)
 | yv k l vs=>simp [nr1] at h
 | agg l=>simp [nr1] at h
 | tup l=>simp [nr1] at h
 | cl f l=>simp [nr1] at h
 | itv r=>exact .itv r
 | sls k lo len sz=>exact .sls _ _ _ _ (by simpa [nr1] using h)
theorem nrA_spec {κ:Nat} {x:AV} (h:nrA κ x=true):NoRef κ x:=by
 cases x with
 | agg l=>exact .agg l fun c hc=>nr1_spec ((List.all_eq_true.1 h) _ (List.getElem_mem hc))
 | tup l=>exact .tup l fun c hc=>nr1_spec ((List.all_eq_true.1 h) _ (List.getElem_mem hc))
 | cl f l=>exact .cl f l fun c hc=>nr1_spec ((List.all_eq_true.1 h) _ (List.getElem_mem hc))
 | dead=>exact .dead
 | p v=>exact .p v
 | sl k lo len=>exact nr1_spec h
 | ptr k i=>exact nr1_spec h
 | mptr k=>exact nr1_spec h
 | yv k l vs =>
  simp only [nrA,Bool.and_eq_true,bne_iff_ne] at h
  exact .yv _ _ _ h.1 fun c hc=>nr1_spec ((List.all_eq_true.1 h.2) _ (List.getElem_mem hc))
 | itv r=>exact .itv r
 | sls k lo len sz=>exact nr1_spec h
theorem AVal.noRef {rd:PV→Value→Prop} {m:Map} {H:Heap} {x:AV} {v:Value} (h:AVal rd m H x v) {κ:Nat} (hk:H.length≤κ):NoRef κ x:=by
 induction h with
 | dead v=>exact .dead
 | p pv v h=>exact .p pv
 | sl k lo len v hk' h=>exact .sl _ _ _ (by omega)
 | ptr k i v hk' h=>exact .ptr _ _ (by omega)
 | mptr k v hk' h=>exact .mptr _ (by omega)
 | yv k l vs v hk' h hl hr ih=>exact .yv _ _ _ (by omega) ih
 | agg l vs hl hr ih=>exact .agg l ih
 | tup l vs hl hr ih=>exact .tup l ih
 | cl f l vs hl hr ih=>exact .cl f l ih
 | itv r=>exact .itv r
 | sls k lo len sz v hk' h=>exact .sls _ _ _ _ (by omega)
theorem AVal.extN {rd rd' : PV→Value→Prop} {m m' : Map} {H H' : Heap} {κ L:Nat} (h1:∀ p v,rd p v→rd' p v) (h2:∀ k,k ≠ κ→k ≠ L→k < H.length→m' k=m k∧k < H'.length) {a:AV} {v:Value} (h:AVal rd m H a v) (hk:NoRef κ a) (hL:NoRef L a):AVal rd' m' H' a v:=by
 induction h with
 | dead v=>exact .dead v
 | p pv v h=>exact .p pv v (h1 _ _ h)
 | sl k lo len v hk' h =>
  cases hk with
  | sl _ _ _ e1 =>
  cases hL with
  | sl _ _ _ e2 =>
  obtain ⟨e3,e4⟩:=h2 k e1 e2 hk'
  refine .sl k lo len v e4 ?_
  rcases h with h | ⟨l,cap,h,r⟩
  ·exact .inl h
  exact .inr ⟨l,cap,by rw [e3]; exact h,r⟩
 | mptr k v hk' h =>
  cases hk with
  | mptr _ e1 =>
  cases hL with
  | mptr _ e2 =>
  obtain ⟨e3,e4⟩:=h2 k e1 e2 hk'
  refine .mptr k v e4 ?_
  obtain ⟨l,h,r⟩:=h
  exact ⟨l,by rw [e3]; exact h,r⟩
 | yv k l vs v hk' h hl hr ih =>
  cases hk with
  | yv _ _ _ e1 f1 =>
  cases hL with
  | yv _ _ _ e2 f2 =>
  obtain ⟨e3,e4⟩:=h2 k e1 e2 hk'
  refine .yv k l vs v e4 ?_ hl fun c hc=>ih c hc (f1 c hc) (f2 c hc)
  obtain ⟨l,h,r⟩:=h
  exact ⟨l,by rw [e3]; exact h,r⟩
 | ptr k i v hk' h =>
  cases hk with
  | ptr _ _ e1 =>
  cases hL with
  | ptr _ _ e2 =>
  obtain ⟨e3,e4⟩:=h2 k e1 e2 hk'
  refine .ptr k i v e4 ?_
  obtain ⟨l,h,r⟩:=h
  exact ⟨l,by rw [e3]; exact h,r⟩
 | agg l vs hl hr ih =>
  cases hk with
  | agg _ e1 =>
  cases hL with
  | agg _ e2=>exact .agg l vs hl fun c hc=>ih c hc (e1 c hc) (e2 c hc)
 | tup l vs hl hr ih =>
  cases hk with
  | tup _ e1 =>
  cases hL with
  | tup _ e2=>exact .tup l vs hl fun c hc=>ih c hc (e1 c hc) (e2 c hc)
 | cl f l vs hl hr ih =>
  cases hk with
  | cl _ _ e1 =>
  cases hL with
  | cl _ _ e2=>exact .cl f l vs hl fun c hc=>ih c hc (e1 c hc) (e2 c hc)
 | itv r=>exact .itv r
 | sls k lo len sz v hk' h =>
  cases hk with
  | sls _ _ _ _ e1 =>
  cases hL with
  | sls _ _ _ _ e2 =>
  obtain ⟨e3,e4⟩:=h2 k e1 e2 hk'
  refine .sls k lo len sz v e4 ?_
  rcases h with h | ⟨l,cap,h,r⟩
  ·exact .inl h
  exact .inr ⟨l,cap,by rw [e3]; exact h,r⟩
section
variable {P:Program} {T:TypeId→Option TI} {C:Ctx} {m:Map} {s:St} {tmps:Array Value} {w:World}
theorem hset_hget:∀ (H:Heap) (k j:Nat) (b:Blk),hget (hset H k b) j=if j=k∧k < H.length then b else hget H j
 | [],k,j,b=>by simp [hset]
 | x :: r,0,0,b=>by simp [hset,hget]
 | x :: r,0,j + 1,b=>by simp [hset,hget]
 | x :: r,k + 1,0,b=>by simp [hset,hget]
 | x :: r,k + 1,j + 1,b=>by simp [hset,hget,hset_hget r k j b]
theorem hget_ext:∀ {H H' : Heap},H.length=H'.length→(∀ j,hget H j=hget H' j)→H=H'
 | [],[],_,_=>rfl
 | x :: r,y :: t,hl,h=>by
  have h0:=h 0
  simp only [hget] at h0
  rw [h0,hget_ext (H:=r) (H':=t) (by simpa using hl) fun j=>by simpa [hget] using h (j + 1)]
 | [],_ :: _,hl,_=>by simp at hl
 | _ :: _,[],hl,_=>by simp at hl
theorem hget_app1:∀ {H H2:Heap} {j:Nat},j < H.length→hget (H++H2) j=hget H j
 | x :: r,H2,0,_=>rfl
 | x :: r,H2,j + 1,h=>by simpa [hget] using hget_app1 (H:=r) (H2:=H2) (j:=j) (by simpa using h)
 | [],H2,j,h=>by simp at h
theorem hget_app2:∀ {H H2:Heap} {j:Nat},H.length≤j→hget (H++H2) j=hget H2 (j - H.length)
 | [],H2,j,_=>by simp
 | x :: r,H2,0,h=>by simp at h
 | x :: r,H2,j + 1,h=>by
  simp only [List.cons_append,hget,List.length_cons]
  rw [hget_app2 (H:=r) (by simpa using h)]
  congr 1; omega
theorem hget_rep:∀ (n j:Nat),hget (List.replicate n Blk.dead) j = .dead
 | 0,j=>rfl
 | n + 1,0=>rfl
 | n + 1,j + 1=>by simpa [List.replicate_succ,hget] using hget_rep n j
theorem Rel.pad (R:Rel C m s tmps w) (n:Nat):Rel C m { s with H:=s.H++List.replicate n .dead } tmps w:=by
 have hg:∀ (k:Nat) (b:Blk),(s.H++List.replicate n .dead)[k]? = some b→b ≠ .dead→s.H[k]? = some b:=by
  intro k b h hb
  by_cases hk:k < s.H.length
  ·rwa [List.getElem?_append_left hk] at h
  rw [List.getElem?_append_right (by omega),List.getElem?_replicate] at h
  split at h
  ·cases h; exact absurd rfl hb
  cases h
 have hok:∀ b,OK C m s.H w b→∀ k c l,(s.H++List.replicate n .dead)[k]? = some (.own c)→m k=some l→l.g ≠ b:=fun b hb k c l h hl=>hb.2.2 k c l (hg k _ h (by simp)) hl
 have ho:∀ b,OK C m s.H w b→OK C m (s.H++List.replicate n .dead) w b:=fun b h=>⟨h.1,h.2.1,hok b h⟩
 refine R.heap (BelowP.refl _ _) (by simp) (fun _ _=>rfl) hok (fun _ _=>rfl) ?_ ?_ ?_ (fun k b hb h=>hg k _ h (by intro e; subst e; cases hb))
 ·exact fun k k' c c' l l' h1 h2 h3 h4 h5=>R.inj k k' c c' l l' (hg k _ h1 (by simp)) (hg k' _ h2 (by simp)) h3 h4 h5
 ·exact fun k c h=>(R.blk k c (hg k _ h (by simp))).ext (fun p v h=>h.ext ho fun _ _=>rfl) (by simp) (fun _ _=>rfl) rfl fun _ _=>rfl
 exact fun k c h=>(R.fro k c (hg k _ h (by simp))).ext ho (fun _ _=>rfl) rfl
theorem Rel.move {m' : Map} {b:Blk} {w' : World} {κ:Nat} (R:Rel C m s tmps w) (R' : Rel C m' { s with H:=s.H++[b] } tmps w') (hκ:s.H[κ]? = some .dead) (ha:∀ (k i j:Nat),s.H[k]? = some (Blk.anc i j)→j ≠ κ) (ha2:∀ i j,b ≠ Blk.anc i j)
  (hn:∀ t,NoRef κ (s.get t)) (hc:∀ (k:Nat) (c:List AV),s.H[k]? = some (Blk.own c)→∀ (j:Nat) (h:j < c.length),NoRef κ c[j]) (hb:∀ (c:List AV),b=Blk.own c→∀ (j:Nat) (h:j < c.length),NoRef κ c[j]∧NoRef s.H.length c[j]) :
  Rel C (mput m' κ (m' s.H.length)) { s with H:=hset s.H κ b } tmps w'∧(∀ i v,AVal (Reads (OK C m' (s.H++[b]) w') w') m' (s.H++[b]) (.ptr s.H.length i) v→AVal (Reads (OK C (mput m' κ (m' s.H.length)) (hset s.H κ b) w') w') (mput m' κ (m' s.H.length)) (hset s.H κ b) (.ptr κ i) v) ∧
   (∀ lo len v,AVal (Reads (OK C m' (s.H++[b]) w') w') m' (s.H++[b]) (.sl s.H.length lo len) v→AVal (Reads (OK C (mput m' κ (m' s.H.length)) (hset s.H κ b) w') w') (mput m' κ (m' s.H.length)) (hset s.H κ b) (.sl κ lo len) v):=by
 have hκl:κ < s.H.length:=(List.getElem?_eq_some_iff.1 hκ).1
 have hml:∀ k,k ≠ κ→mput m' κ (m' s.H.length) k=m' k:=fun k hk=>by simp [mput,hk]
 have hmk:mput m' κ (m' s.H.length) κ=m' s.H.length:=by simp [mput]
 have hgl:(s.H++[b])[s.H.length]? = some b:=by simp
 have hg:∀ (k:Nat) (d:Blk),(hset s.H κ b)[k]? = some d→(k=κ∧d=b)∨(k ≠ κ∧s.H[k]? = some d∧(s.H++[b])[k]? = some d):=by
  intro k d h
  rw [hset_get] at h
  by_cases e:k=κ
  ·rw [if_pos ⟨e,hκl⟩] at h; exact .inl ⟨e,(Option.some.inj h).symm⟩
  rw [if_neg (by simp [e])] at h
  exact .inr ⟨e,h,by rw [List.getElem?_append_left (List.getElem?_eq_some_iff.1 h).1]; exact h⟩
 have hok:∀ x,OK C m' (s.H++[b]) w' x→OK C (mput m' κ (m' s.H.length)) (hset s.H κ b) w' x:=by
  refine fun x hx=>⟨hx.1,hx.2.1,fun k c l h hl=>?_⟩
  rcases hg k _ h with ⟨rfl,e⟩ | ⟨hne,_,h2⟩
  ·rw [hmk] at hl
   exact hx.2.2 _ c l (by rw [hgl,e]) hl
  rw [hml k hne] at hl
  exact hx.2.2 k c l h2 hl
 have hrd:∀ p v,Reads (OK C m' (s.H++[b]) w') w' p v→Reads (OK C (mput m' κ (m' s.H.length)) (hset s.H κ b) w') w' p v:=fun p v h=>h.mono hok
 have hmv:∀ k,k ≠ κ→k ≠ s.H.length→k < (s.H++[b]).length→mput m' κ (m' s.H.length) k=m' k∧k < (hset s.H κ b).length:=by
  intro k h1 h2 h3
  refine ⟨hml k h1,?_⟩
  rw [hset_length]; simp at h3; omega
 have mps:∀ (k:Nat) (kk:IntKind) (d:Int→Bool) (v:Int→PV),(hset s.H κ b)[k]? = some (Blk.mp kk d v)→∃ j,(s.H++[b])[j]? = some (Blk.mp kk d v)∧mput m' κ (m' s.H.length) k=m' j∧(k=κ∧j=s.H.length∨k ≠ κ∧j=k∧k < s.H.length):=by
  intro k kk d v h
  rcases hg k _ h with ⟨rfl,e⟩ | ⟨hne,h1,h2⟩
  ·exact ⟨s.H.length,by rw [hgl,e],hmk,.inl ⟨rfl,rfl⟩⟩
  exact ⟨k,h2,hml k hne,.inr ⟨hne,rfl,(List.getElem?_eq_some_iff.1 h1).1⟩⟩
 refine ⟨⟨R'.laid.ext hrd,R'.below,R'.base,R'.size,?_,?_,?_,fun t=>?_,fun k kk d v h=>?_,fun k k' kk d v kk' d' v' l l' h1 h2 h3 h4 h5=>?_,fun k i j h=>?_,?_⟩,fun i v hv=>?_,fun lo len v hv=>?_⟩
 rotate_left 7
 ·have lps:∀ (k:Nat) (r:Loop),(hset s.H κ b)[k]? = some (Blk.lp r)→∃ j,(s.H++[b])[j]? = some (Blk.lp r)∧mput m' κ (m' s.H.length) k=m' j∧j=(if k=κ then s.H.length else k)∧k < s.H.length:=by
   intro k r h
   rcases hg k _ h with ⟨rfl,e⟩ | ⟨hne,h1,h2⟩
   ·exact ⟨s.H.length,by rw [hgl,e],hmk,by simp,hκl⟩
   exact ⟨k,h2,hml k hne,by simp [hne],(List.getElem?_eq_some_iff.1 h1).1⟩
  refine R'.mp.2.2.2.ext (fun k=>if k=κ then s.H.length else k) (fun k r h=>?_) (fun k k' r r' h1 h2 e=>?_) (fun _ _ _ _ _ _=>rfl) fun _ _ _ _ _ h=>h
  ·obtain ⟨j,j1,j2,j3,_⟩:=lps k r h
   simp only [← j3]; exact ⟨j1,j2⟩
  obtain ⟨_,_,_,_,j4⟩:=lps k r h1
  obtain ⟨_,_,_,_,i4⟩:=lps k' r' h2
  split at e<;>split at e<;>omega
 rotate_left 2
 rotate_left 4
 ·obtain ⟨j,j1,j2,_⟩:=mps k kk d v h
  obtain ⟨l,ar,clk,vs,a1,a2,a3,a4,a5,a6,a7⟩:=R'.mp.1 j kk d v j1
  exact ⟨l,ar,clk,vs,by rw [j2]; exact a1,a2,a3,a4,a5,a6,fun z hz=>hrd _ _ (a7 z hz)⟩
 ·obtain ⟨j,j1,j2,j3⟩:=mps _ _ _ _ h1
  obtain ⟨i,i1,i2,i3⟩:=mps _ _ _ _ h2
  rw [j2] at h3; rw [i2] at h4
  have:=R'.mp.2.1 _ _ _ _ _ _ _ _ _ _ j1 i1 h3 h4 h5
  omega
 ·rcases hg k _ h with ⟨rfl,e⟩ | ⟨hne,h1,h2⟩
  ·exact absurd e.symm (ha2 i j)
  obtain ⟨c1,c2⟩:=R'.mp.2.2.1 k i j h2
  have hj:=(R.mp.2.2.1 k i j h1).1
  exact ⟨by rw [hset_length]; exact hj,by rw [hml j (ha k i j h1)]; exact c2⟩
 rotate_left 2
 ·intro k k' c c' l l' h1 h2 h3 h4 h5
  rcases hg k _ h1 with ⟨rfl,e1⟩ | ⟨n1,g1,f1⟩<;>rcases hg k' _ h2 with ⟨rfl,e2⟩ | ⟨n2,g2,f2⟩
  ·rfl
  ·rw [hmk] at h3; rw [hml k' n2] at h4
   have:=R'.inj _ k' c c' l l' (by rw [hgl,e1]) f2 h3 h4 h5
   have:=(List.getElem?_eq_some_iff.1 g2).1
   omega
  ·rw [hmk] at h4; rw [hml k n1] at h3
   have:=R'.inj k _ c c' l l' f1 (by rw [hgl,e2]) h3 h4 h5
   have:=(List.getElem?_eq_some_iff.1 g1).1
   omega
  rw [hml k n1] at h3; rw [hml k' n2] at h4
  exact R'.inj k k' c c' l l' f1 f2 h3 h4 h5
 ·intro k c h
  rcases hg k _ h with ⟨rfl,e1⟩ | ⟨n1,g1,f1⟩
  ·rcases R'.blk _ c (by rw [hgl,e1]) with ⟨a1,a2⟩ | ⟨l,cur,e,a1,a2,a3,a4,a5,a6,a7⟩
   ·exact .inl ⟨a1,by rw [hmk]; exact a2⟩
   exact .inr ⟨l,cur,e,by rw [hmk]; exact a1,a2,a3,a4,a5,a6,fun j hj=>(a7 j hj).extN hrd hmv (hb c e1.symm j hj).1 (hb c e1.symm j hj).2⟩
  rcases R'.blk k c f1 with ⟨a1,a2⟩ | ⟨l,cur,e,a1,a2,a3,a4,a5,a6,a7⟩
  ·exact .inl ⟨a1,by rw [hml k n1]; exact a2⟩
  refine .inr ⟨l,cur,e,by rw [hml k n1]; exact a1,a2,a3,a4,a5,a6,fun j hj=>(a7 j hj).extN hrd hmv (hc k c g1 j hj) ?_⟩
  rcases R.blk k c g1 with ⟨b1,_⟩ | ⟨l2,cur2,e2,_,_,_,_,_,_,b7⟩
  ·subst b1; simp at hj
  exact (b7 j hj).noRef (Nat.le_refl _)
 ·intro k c h
  rcases hg k _ h with ⟨rfl,e1⟩ | ⟨n1,g1,f1⟩
  ·rcases R'.fro _ c (by rw [hgl,e1]) with ⟨a1,a2⟩ | ⟨l,vs,a1,a2,a3,a4⟩
   ·exact .inl ⟨a1,by rw [hmk]; exact a2⟩
   exact .inr ⟨l,vs,by rw [hmk]; exact a1,hok _ a2,a3,fun j hj=>⟨(a4 j hj).1,(a4 j hj).2.mono hok⟩⟩
  exact (R'.fro k c f1).ext hok (fun _ _=>rfl) (hml k n1)
 ·exact (R'.slot t).extN hrd hmv (hn t) ((R.slot t).noRef (Nat.le_refl _))
 ·cases hv with
  | ptr _ _ _ hk h =>
   obtain ⟨l,h,r⟩:=h
   exact .ptr _ _ _ (by rw [hset_length]; exact hκl) ⟨l,by rw [hmk]; exact h,r⟩
 cases hv with
 | sl _ _ _ _ hk h =>
  refine .sl _ _ _ _ (by rw [hset_length]; exact hκl) ?_
  rcases h with h | ⟨l,cap,h,r⟩
  ·exact .inl h
  exact .inr ⟨l,cap,by rw [hmk]; exact h,r⟩
end
end Go.Pv
namespace Go.Pv
open Go.RowKit
inductive Cls where
 | f
 | ld (k:Nat)
 | st (k:Nat)
 | nw (k:Nat)
 | ap (k k' : Nat)
 | ms (l:List (Nat × Blk)) 
instance:Inhabited Cls:=⟨.f⟩
def Cls.tch:Cls→Nat→Bool
 | .f,_=>false
 | .ld k,b=>k == b
 | .st k,b=>k == b
 | .nw k,b=>k == b
 | .ap k k',b=>k == b || k' == b
 | .ms l,b=>l.any fun p=>p.1 == b
def Cls.wrt:Cls→Nat→Bool
 | .st k,b=>k == b
 | .nw k,b=>k == b
 | .ap k k',b=>k == b || k' == b
 | .ms l,b=>l.any fun p=>p.1 == b
 | _,_=>false
def Cls.mk:Cls→Option Nat
 | .nw k=>some k
 | .ap _ k'=>some k'
 | _=>none
def confl:Cls→Cls→Bool
 | .f,_=>false
 | _,.f=>false
 | .ld _,.ld _=>false
 | .ld a,y=>y.tch a
 | .st a,y=>y.tch a
 | .nw a,y=>y.tch a
 | .ap a a',y=>y.tch a || y.tch a'
 | .ms l,y=>l.any fun p=>y.tch p.1
theorem Cls.wrt_tch {c:Cls} {b:Nat} (h:c.wrt b=true):c.tch b=true:=by
 cases c<;>simp_all [Cls.wrt,Cls.tch]
theorem confl_tch {x y:Cls} (h:confl x y=false) {b:Nat} (hx:x.tch b=true) (hy:y.tch b=true):(∃ k,x = .ld k)∧∃ k,y = .ld k:=by
 have any_no:∀ {l:List (Nat × Blk)} {q:Nat→Bool},(l.any fun p=>q p.1)=false→(l.any fun p=>p.1 == b)=true→q b=false:=by
  intro l q h1 h2
  obtain ⟨p,hp,e⟩:=List.any_eq_true.1 h2
  have e:p.1=b:=by simpa using e
  have:=List.any_eq_false.1 h1 p hp
  rw [e] at this
  simpa using this
 cases x with
 | ms l =>
  exfalso
  cases y with
  | f=>simp [Cls.tch] at hy
  | _ =>
   have h':=any_no (q:=fun k=>Cls.tch _ k) (by simpa [confl] using h) (by simpa [Cls.tch] using hx)
   rw [hy] at h'; cases h'
 | _ =>
  cases y with
  | ms l =>
   exfalso
   simp only [confl,Cls.tch,beq_iff_eq,Bool.or_eq_true,Bool.or_eq_false_iff] at h hx hy
   first
    | (cases hx; done)
    | (subst hx; rw [hy] at h; cases h; done)
    | (rcases hx with hx|hx<;>subst hx<;>first|(rw [hy] at h; exact absurd h.1 (by decide))|(rw [hy] at h; exact absurd h.2 (by decide)))
  | _=>first|exact ⟨⟨_,rfl⟩,⟨_,rfl⟩⟩|(exfalso; simp [confl,Cls.tch] at h hx hy; done)|(exfalso; simp [confl,Cls.tch] at h hx hy; omega)
theorem confl_spec {x y:Cls} (h:confl x y=false) (b:Nat):¬ (x.tch b=true∧y.wrt b=true)∧¬ (x.wrt b=true∧y.tch b=true):=by
 constructor
 ·rintro ⟨h1,h2⟩
  obtain ⟨_,k,e⟩:=confl_tch h h1 (Cls.wrt_tch h2)
  subst e; cases h2
 rintro ⟨h1,h2⟩
 obtain ⟨⟨k,e⟩,_⟩:=confl_tch h (Cls.wrt_tch h1) h2
 subst e; cases h1
structure I2 where
 c:Cls
 av:AV
 b:Blk
 pu:Bool
instance:Inhabited I2:=⟨⟨.f,.dead,.dead,false⟩⟩
def I2.blks (x:I2):List Blk:=
 match x.c with
 | .ms l=>l.map (·.2)
 | _=>[x.b]
def I2.Pu (x:I2):Prop:=x.pu=true→∀ c,Blk.own c∈x.blks→∀ (q:Nat) (h:q < c.length) (κ:Nat),NoRef κ c[q]
def setL:Heap→List (Nat × Blk)→Heap
 | H,[]=>H
 | H,p :: l=>hset (setL H l) p.1 p.2
def lkB (j:Nat):List (Nat × Blk)→Blk
 | []=>.dead
 | p :: l=>if p.1=j then p.2 else lkB j l
theorem setL_length:∀ (l:List (Nat × Blk)) (H:Heap),(setL H l).length=H.length
 | [],H=>rfl
 | p :: l,H=>by rw [setL,hset_length,setL_length l H]
theorem setL_hget (H:Heap) (j:Nat):∀ l:List (Nat × Blk),hget (setL H l) j=if (l.any fun p=>p.1 == j)=true∧j < H.length then lkB j l else hget H j
 | []=>by simp [setL]
 | p :: l=>by
  rw [setL,hset_hget,setL_length,setL_hget H j l]
  simp only [List.any_cons,Bool.or_eq_true,beq_iff_eq,lkB]
  by_cases h:p.1=j
  ·subst h
   by_cases hl:p.1 < H.length
   ·rw [if_pos ⟨rfl,hl⟩,if_pos ⟨.inl rfl,hl⟩,if_pos rfl]
   rw [if_neg (fun hh=>hl hh.2),if_neg (fun hh=>hl hh.2),if_neg (fun hh=>hl hh.2)]
  rw [if_neg (fun hh=>h hh.1.symm),if_neg h]
  by_cases h2:(l.any fun p=>p.1 == j)=true∧j < H.length
  ·rw [if_pos h2,if_pos ⟨.inr h2.1,h2.2⟩]
  rw [if_neg h2,if_neg (fun hh=>h2 ⟨hh.1.resolve_left h,hh.2⟩)]
theorem lkB_mem {j:Nat} : ∀ {l:List (Nat × Blk)},lkB j l = .dead∨∃ p∈l,lkB j l=p.2
 | []=>.inl rfl
 | p :: l=>by
  simp only [lkB]
  by_cases h:p.1=j
  ·rw [if_pos h]; exact .inr ⟨p,by simp,rfl⟩
  rw [if_neg h]
  rcases lkB_mem (l:=l) with h | ⟨q,hq,e⟩
  ·exact .inl h
  exact .inr ⟨q,by simp [hq],e⟩
def updC (x:I2) (H:Heap):Heap:=
 match x.c with
 | .ms l=>setL H l
 | .st k=>hset H k x.b
 | .nw k=>hset H k x.b
 | .ap k k'=>hset (hset H k .dead) k' x.b
 | _=>H
def nxtH (x:I2) (H:Heap):Heap:=
 match x.c with
 | .ms l=>setL H l
 | .st k=>hset H k x.b
 | .nw _=>H++[x.b]
 | .ap k _=>hset H k .dead++[x.b]
 | _=>H
def wv (x:I2) (j:Nat):Blk:=
 match x.c with
 | .ap _ k'=>if k' = j then x.b else .dead
 | .ms l=>lkB j l
 | _=>x.b
theorem wv_blks (x:I2) (j:Nat):wv x j = .dead∨wv x j∈x.blks:=by
 unfold wv I2.blks
 cases x.c with
 | ap k k' =>
  simp only
  split
  ·exact .inr (by simp)
  exact .inl rfl
 | ms l =>
  simp only
  rcases lkB_mem (j:=j) (l:=l) with h | ⟨p,hp,e⟩
  ·exact .inl h
  exact .inr (by rw [e]; exact List.mem_map.2 ⟨p,hp,rfl⟩)
 | _=>exact .inr (by simp)
theorem updC_len (x:I2) (H:Heap):(updC x H).length=H.length:=by
 unfold updC; split<;>simp [hset_length,setL_length]
theorem updC_hget (x:I2) (H:Heap) (j:Nat):hget (updC x H) j=if x.c.wrt j=true∧j < H.length then wv x j else hget H j:=by
 obtain ⟨c,av,b,pu⟩:=x
 cases c with
 | f=>simp [updC,Cls.wrt]
 | ms l=>simp only [updC,wv,Cls.wrt]; exact setL_hget H j l
 | ld k=>simp [updC,Cls.wrt]
 | st k =>
  simp only [updC,wv,Cls.wrt,beq_iff_eq]
  rw [hset_hget]
  by_cases h:j=k
  ·subst h; simp
  rw [if_neg (fun hh=>h hh.1),if_neg (fun hh=>h hh.1.symm)]
 | nw k =>
  simp only [updC,wv,Cls.wrt,beq_iff_eq]
  rw [hset_hget]
  by_cases h:j=k
  ·subst h; simp
  rw [if_neg (fun hh=>h hh.1),if_neg (fun hh=>h hh.1.symm)]
 | ap k k' =>
  simp only [updC,wv,Cls.wrt,Bool.or_eq_true,beq_iff_eq]
  rw [hset_hget,hset_length,hset_hget]
  by_cases h:j=k'
  ·subst h
   by_cases hl:j < H.length
   ·rw [if_pos ⟨rfl,hl⟩,if_pos ⟨.inr rfl,hl⟩,if_pos rfl]
   rw [if_neg (fun hh=>hl hh.2),if_neg (show ¬ (j=k∧k < H.length) from fun hh=>hl (by rw [hh.1]; exact hh.2)),if_neg (show ¬ ((k=j∨j=j)∧j < H.length) from fun hh=>hl hh.2)]
  rw [if_neg (fun hh=>h hh.1)]
  by_cases h2:j=k
  ·subst h2
   simp [Ne.symm h]
  rw [if_neg (fun hh=>h2 hh.1),if_neg (fun hh=>by rcases hh.1 with e | e; exact h2 e.symm; exact h e.symm)]
def Loc2 (P:Program) (o:Oper) (s:St) (x:I2):Prop:=
 match x.c with
 | .ms l=>((∀ p∈l,p.1 < s.H.length)∧∀ p∈l,∀ i j,p.2 ≠ .anc i j)∧∀ s2:St,s2.n=s.n→Agree o s s2→(∀ p∈l,p.1 < s2.H.length∧hget s2.H p.1=hget s.H p.1)→DoesW P o s2 x.av (setL s2.H l)
 | .f=>∀ s2:St,s2.n=s.n→Agree o s s2→DoesW P o s2 x.av s2.H
 | .ld k=>k < s.H.length∧∀ s2:St,s2.n=s.n→Agree o s s2→hget s2.H k=hget s.H k→DoesW P o s2 x.av s2.H
 | .st k=>k < s.H.length∧∀ s2:St,s2.n=s.n→Agree o s s2→hget s2.H k=hget s.H k→DoesW P o s2 x.av (hset s2.H k x.b)
 | .nw k=>k=s.H.length∧∀ s2:St,s2.n=s.n→Agree o s s2→s2.H[k]? = some .dead→(∀ t,NoRef k (s2.get t))→(∀ (j:Nat) (c:List AV),s2.H[j]? = some (Blk.own c)→∀ (i:Nat) (h:i < c.length),NoRef k c[i])→(∀ (b i j:Nat),s2.H[b]? = some (Blk.anc i j)→j ≠ k)→DoesW P o s2 x.av (hset s2.H k x.b)
 | .ap q k=>(q < s.H.length∧k=s.H.length)∧∀ s2:St,s2.n=s.n→Agree o s s2→hget s2.H q=hget s.H q→s2.H[k]? = some .dead→(∀ t,NoRef k (s2.get t))→(∀ (j:Nat) (c:List AV),s2.H[j]? = some (Blk.own c)→∀ (i:Nat) (h:i < c.length),NoRef k c[i])→(∀ (b i j:Nat),s2.H[b]? = some (Blk.anc i j)→j ≠ k)→DoesW P o s2 x.av (hset (hset s2.H q .dead) k x.b)
inductive Run2 (P:Program) (all:Array Oper):List Oper→List I2→St→St→Prop
 | nil (s:St):Run2 P all [] [] s s
 | skip {o:Oper} {r:List Oper} {xs:List I2} {s s' : St} (hg:guardA all s o=some false) (hd:∀ t,o.dst=some t→t < s.n) (hr:Run2 P all r xs (s.put o.dst (.p (.tup []))) s'):Run2 P all (o :: r) (⟨.f,.p (.tup []),.dead,false⟩ :: xs) s s'
 | op {o:Oper} {r:List Oper} {x:I2} {xs:List I2} {s s' : St} (hg:guardA all s o=some true) (hd:∀ t,o.dst=some t→t < s.n) (h:Loc2 P o s x) (hp:x.Pu) (hr:Run2 P all r xs (({ s with H:=nxtH x s.H } : St).put o.dst x.av) s'):Run2 P all (o :: r) (x :: xs) s s'
section
variable {P:Program} {ops:Array Oper} {I:Nat→I2} {s:St}
def cS (ops:Array Oper) (I:Nat→I2) (s:St):Nat→St
 | 0=>s
 | k + 1=>({ cS ops I s k with H:=nxtH (I k) (cS ops I s k).H } : St).put (opAt ops k).dst (I k).av
structure Fact2 (P:Program) (ops:Array Oper) (I:Nat→I2) (s:St) (j:Nat) (o:Oper):Prop where
 pu:(I j).Pu
 dst:∀ t,o.dst=some t→t < s.n
 how:(guardA ops (cS ops I s j) o=some false∧I j=⟨.f,.p (.tup []),.dead,false⟩)∨(guardA ops (cS ops I s j) o=some true∧Loc2 P o (cS ops I s j) (I j))
theorem cS_n:∀ k,(cS ops I s k).n=s.n
 | 0=>rfl
 | k + 1=>by simp only [cS]; rw [St.put_n]; exact cS_n k
theorem facts2 {s' : St} : ∀ (l:List Oper) (xs:List I2) (k:Nat),(∀ i,l[i]? = ops[k + i]?)→(∀ i x,xs[i]? = some x→I (k + i)=x)→k + l.length=ops.size →
  Run2 P ops l xs (cS ops I s k) s'→(∀ i o,k≤i→ops[i]? = some o→Fact2 P ops I s i o)∧s' = cS ops I s ops.size
 | [],xs,k,hl,hx,hk,hr=>by
  cases hr
  simp at hk
  subst hk
  refine ⟨fun i o hi ho=>?_,rfl⟩
  have:=(Array.getElem?_eq_some_iff.1 ho).1
  omega
 | o :: r,xs,k,hl,hx,hk,hr=>by
  have ho:ops[k]? = some o:=by have:=hl 0; simpa using this.symm
  have hod:opAt ops k=o:=opAt_of ho
  have hl' : ∀ i,r[i]? = ops[k + 1 + i]?:=fun i=>by have:=hl (i + 1); simp only [List.getElem?_cons_succ] at this; rw [this]; congr 1; omega
  have hn:=cS_n (ops:=ops) (I:=I) (s:=s) k
  cases hr with
  | skip hg hd hr =>
   rename_i xs
   have hIk:I k=⟨.f,.p (.tup []),.dead,false⟩:=by have:=hx 0 _ rfl; simpa using this
   have e:cS ops I s (k + 1)=(cS ops I s k).put o.dst (.p (.tup [])):=by simp only [cS]; rw [hIk,hod]; rfl
   rw [← e] at hr
   obtain ⟨g1,g2⟩:=facts2 r xs (k + 1) hl' (fun i x h=>by have:=hx (i + 1) x (by simpa using h); rw [← this]; congr 1; omega) (by simp at hk; omega) hr
   refine ⟨fun i o' hi ho'=>?_,g2⟩
   by_cases hik:i=k
   ·subst hik
    rw [ho] at ho'; cases ho'
    exact ⟨by rw [hIk]; intro h; (cases h),fun t ht=>by rw [← hn]; exact hd t ht,.inl ⟨hg,hIk⟩⟩
   exact g1 i o' (by omega) ho'
  | op hg hd h hpu hr =>
   rename_i x xs
   have hIk:I k=x:=by have:=hx 0 _ rfl; simpa using this
   have e:cS ops I s (k + 1)=({ cS ops I s k with H:=nxtH x (cS ops I s k).H } : St).put o.dst x.av:=by simp only [cS]; rw [hIk,hod]
   rw [← e] at hr
   obtain ⟨g1,g2⟩:=facts2 r xs (k + 1) hl' (fun i x h=>by have:=hx (i + 1) x (by simpa using h); rw [← this]; congr 1; omega) (by simp at hk; omega) hr
   refine ⟨fun i o' hi ho'=>?_,g2⟩
   by_cases hik:i=k
   ·subst hik
    rw [ho] at ho'; cases ho'
    exact ⟨by rw [hIk]; exact hpu,fun t ht=>by rw [← hn]; exact hd t ht,.inr ⟨hg,by rw [hIk]; exact h⟩⟩
   exact g1 i o' (by omega) ho'
def tD (ops:Array Oper) (I:Nat→I2) (s:St) (L:Nat) (D:Nat→Bool):Nat→St
 | 0=>{ s with H:=s.H++List.replicate L .dead }
 | k + 1=>if D k then ({ tD ops I s L D k with H:=updC (I k) (tD ops I s L D k).H } : St).put (opAt ops k).dst (I k).av else tD ops I s L D k
variable {L:Nat}
theorem tD_n (D:Nat→Bool):∀ k,(tD ops I s L D k).n=s.n
 | 0=>rfl
 | k + 1=>by
  simp only [tD]
  split
  ·rw [St.put_n]; exact tD_n D k
  exact tD_n D k
theorem tD_len (D:Nat→Bool):∀ k,(tD ops I s L D k).H.length=s.H.length + L
 | 0=>by simp [tD]
 | k + 1=>by
  simp only [tD]
  split
  ·rw [St.put_H,updC_len]; exact tD_len D k
  exact tD_len D k
theorem tD_get (D:Nat→Bool) (k t:Nat):(tD ops I s L D (k + 1)).get t=if D k=true∧(opAt ops k).dst=some t then (I k).av else (tD ops I s L D k).get t:=by
 simp only [tD]
 by_cases h:D k=true
 ·rw [if_pos h,get_put]
  by_cases hd:(opAt ops k).dst=some t
  ·have hr:D k=true∧(opAt ops k).dst=some t:=⟨h,hd⟩
   rw [if_pos hd,if_pos hr]
  have hr:¬ (D k=true∧(opAt ops k).dst=some t):=fun hh=>hd hh.2
  rw [if_neg hd,if_neg hr]; rfl
 have hr:¬ (D k=true∧(opAt ops k).dst=some t):=fun hh=>h hh.1
 rw [if_neg h,if_neg hr]
theorem tD_hget (D:Nat→Bool) (k b:Nat):hget (tD ops I s L D (k + 1)).H b=if D k=true∧(I k).c.wrt b=true∧b < s.H.length + L then wv (I k) b else hget (tD ops I s L D k).H b:=by
 simp only [tD]
 by_cases h:D k=true
 ·rw [if_pos h,St.put_H]
  simp only
  rw [updC_hget,tD_len]
  by_cases hd:(I k).c.wrt b=true∧b < s.H.length + L
  ·rw [if_pos hd,if_pos ⟨h,hd⟩]
  rw [if_neg hd,if_neg (fun hh=>hd hh.2)]
 rw [if_neg h,if_neg (fun hh=>h hh.1)]
theorem tD_get_stay (D : Nat → Bool) (t : Nat) : ∀ k n, k ≤ n → (∀ i, k ≤ i → i < n → D i = true → (opAt ops i).dst ≠ some t) → (tD ops I s L D n).get t = (tD ops I s L D k).get t := by
  intro k n hkn h
  induction n with
  | zero => obtain rfl : k = 0 := by omega
            rfl
  | succ n ih =>
    by_cases hk : k = n + 1
    · rw [hk]
    · rw [tD_get, if_neg (fun hh => h n (by omega) (by omega) hh.1 hh.2)]
      exact ih (by omega) fun i h1 h2 => h i h1 (by omega)
theorem tD_hget_stay (D : Nat → Bool) (b : Nat) : ∀ k n, k ≤ n → (∀ i, k ≤ i → i < n → D i = true → (I i).c.wrt b = false) → hget (tD ops I s L D n).H b = hget (tD ops I s L D k).H b := by
  intro k n hkn h
  induction n with
  | zero => obtain rfl : k = 0 := by omega
            rfl
  | succ n ih =>
    by_cases hk : k = n + 1
    · rw [hk]
    · rw [tD_hget, if_neg (fun hh => by have := h n (by omega) (by omega) hh.1; rw [this] at hh; simp at hh)]
      exact ih (by omega) fun i h1 h2 => h i h1 (by omega)
theorem tD_get_same (D D' : Nat→Bool) (t:Nat):∀ k,(∀ i,i < k→(opAt ops i).dst=some t→D i=D' i)→(tD ops I s L D k).get t=(tD ops I s L D' k).get t:=by
 intro k h
 induction k with
 | zero=>rfl
 | succ k ih =>
  rw [tD_get,tD_get,ih fun i hi=>h i (by omega)]
  by_cases hd:(opAt ops k).dst=some t
  ·rw [h k (by omega) hd]
  rw [if_neg (fun hh=>hd hh.2),if_neg (fun hh=>hd hh.2)]
theorem tD_hget_same (D D' : Nat→Bool) (b:Nat):∀ k,(∀ i,i < k→(I i).c.wrt b=true→D i=D' i)→hget (tD ops I s L D k).H b=hget (tD ops I s L D' k).H b:=by
 intro k h
 induction k with
 | zero=>rfl
 | succ k ih =>
  rw [tD_hget,tD_hget,ih fun i hi=>h i (by omega)]
  by_cases hd:(I k).c.wrt b=true
  ·rw [h k (by omega) hd]
  rw [if_neg (fun hh=>hd hh.2.1),if_neg (fun hh=>hd hh.2.1)]
def Fits (I:Nat→I2) (s:St) (ops:Array Oper) (n:Nat):Prop:=∀ k,k < n→match (I k).c with
 | .ld j=>j < (cS ops I s k).H.length
 | .st j=>j < (cS ops I s k).H.length
 | .nw j=>j=(cS ops I s k).H.length
 | .ap i j=>i < (cS ops I s k).H.length∧j=(cS ops I s k).H.length
 | .ms l=>∀ p∈l,p.1 < (cS ops I s k).H.length
 | .f=>True
theorem nxtH_len (x:I2) (H:Heap):H.length≤(nxtH x H).length:=by
 unfold nxtH; split<;>simp [hset_length,setL_length]
theorem cS_len_mono : ∀ {k n : Nat}, k ≤ n → (cS ops I s k).H.length ≤ (cS ops I s n).H.length := by
  intro k n h
  induction n with
  | zero => obtain rfl : k = 0 := by omega
            exact Nat.le_refl _
  | succ n ih =>
    by_cases hk : k = n + 1
    · rw [hk]; exact Nat.le_refl _
    · refine Nat.le_trans (ih (by omega)) ?_
      simp only [cS]
      rw [St.put_H]
      exact nxtH_len _ _
theorem hget_out:∀ {H:Heap} {j:Nat},H.length≤j→hget H j = .dead
 | [],j,_=>by cases j<;>rfl
 | x :: r,0,h=>by simp at h
 | x :: r,j + 1,h=>hget_out (H:=r) (by simpa using h)
theorem tD_all {n:Nat} (hf:Fits I s ops n) (hL:(cS ops I s n).H.length=s.H.length + L):∀ k,k≤n→(∀ t,(tD ops I s L (fun _=>true) k).get t=(cS ops I s k).get t)∧∀ b,hget (tD ops I s L (fun _=>true) k).H b=hget (cS ops I s k).H b:=by
 intro k
 induction k with
 | zero =>
  intro _
  refine ⟨fun t=>rfl,fun b=>?_⟩
  simp only [tD,cS]
  by_cases hb:b < s.H.length
  ·rw [hget_app1 hb]
  rw [hget_app2 (by omega),hget_rep,hget_out (by omega)]
 | succ k ih =>
  intro hk
  obtain ⟨ih1,ih2⟩:=ih (by omega)
  have hle:=cS_len_mono (ops:=ops) (I:=I) (s:=s) (show k + 1≤n from hk)
  have hlen:(nxtH (I k) (cS ops I s k).H).length≤s.H.length + L:=by
   rw [← hL]
   refine Nat.le_trans ?_ hle
   simp only [cS]; rw [St.put_H]; exact Nat.le_refl _
  refine ⟨fun t=>?_,fun b=>?_⟩
  ·rw [tD_get]
   simp only [cS]
   rw [get_put,ih1]
   by_cases hd:(opAt ops k).dst=some t
   ·rw [if_pos ⟨trivial,hd⟩,if_pos hd]
   rw [if_neg (fun hh=>hd hh.2),if_neg hd]; rfl
  rw [tD_hget,ih2]
  simp only [cS]
  rw [St.put_H]
  simp only
  have hfk:=hf k (by omega)
  unfold nxtH at hlen ⊢
  unfold wv
  cases hc:(I k).c with
  | f=>simp [Cls.wrt]
  | ld j=>simp [Cls.wrt]
  | ms l =>
   rw [hc] at hfk
   have hjj:=cS_len_mono (ops:=ops) (I:=I) (s:=s) (show k≤n by omega)
   simp only [Cls.wrt,true_and]
   rw [setL_hget]
   by_cases hb:(l.any fun p=>p.1 == b)=true
   ·obtain ⟨p,hp,e⟩:=List.any_eq_true.1 hb
    have e:p.1=b:=by simpa using e
    have:=hfk p hp
    rw [if_pos ⟨hb,by omega⟩,if_pos ⟨hb,by omega⟩]
   rw [if_neg (fun hh=>hb hh.1),if_neg (fun hh=>hb hh.1)]
  | st j =>
   rw [hc] at hfk
   have hjj:=cS_len_mono (ops:=ops) (I:=I) (s:=s) (show k≤n by omega)
   simp only [Cls.wrt,beq_iff_eq,true_and]
   rw [hset_hget]
   by_cases hb:b=j
   ·subst hb
    rw [if_pos ⟨rfl,by omega⟩,if_pos ⟨rfl,hfk⟩]
   rw [if_neg (fun hh=>hb hh.1.symm),if_neg (fun hh=>hb hh.1)]
  | nw j =>
   rw [hc] at hfk hlen
   simp only [List.length_append,List.length_singleton] at hlen
   simp only [Cls.wrt,beq_iff_eq,true_and]
   by_cases hb:b=j
   ·subst hb
    rw [if_pos ⟨rfl,by omega⟩,hget_app2 (by omega),hfk,Nat.sub_self]; rfl
   rw [if_neg (fun hh=>hb hh.1.symm)]
   by_cases hlt:b < (cS ops I s k).H.length
   ·rw [hget_app1 hlt]
   rw [hget_out (by omega),hget_out (by simp; omega)]
  | ap i j =>
   rw [hc] at hfk hlen
   obtain ⟨hf1,hf2⟩:=hfk
   simp only [List.length_append,List.length_singleton,hset_length] at hlen
   have hjj:=cS_len_mono (ops:=ops) (I:=I) (s:=s) (show k≤n by omega)
   simp only [Cls.wrt,Bool.or_eq_true,beq_iff_eq,true_and]
   by_cases hb:b=j
   ·subst hb
    rw [if_pos ⟨.inr rfl,by omega⟩,if_pos rfl,hget_app2 (by rw [hset_length]; omega),hset_length,hf2,Nat.sub_self]; rfl
   by_cases hb2:b=i
   ·subst hb2
    rw [if_pos ⟨.inl rfl,by omega⟩,if_neg (Ne.symm hb),hget_app1 (by rw [hset_length]; exact hf1),hset_hget,if_pos ⟨rfl,hf1⟩]
   rw [if_neg (fun hh=>by rcases hh.1 with e | e; exact hb2 e.symm; exact hb e.symm)]
   by_cases hlt:b < (cS ops I s k).H.length
   ·rw [hget_app1 (by rw [hset_length]; exact hlt),hset_hget,if_neg (fun hh=>hb2 hh.1)]
   rw [hget_out (by omega),hget_out (by simp [hset_length]; omega)]
def apart2 (ops:Array Oper) (I:Nat→I2) (i j:Nat):Bool:=(opAt ops i).apart ops (opAt ops j) && !confl (I i).c (I j).c
def blkNr (κ:Nat):Blk→Bool
 | .own c=>c.all (nrA κ)
 | _=>true
def notAnc:Blk→Bool
 | .anc _ _=>false
 | _=>true
theorem notAnc_spec {b:Blk} (h:notAnc b=true) (i j:Nat):b ≠ .anc i j:=by intro e; subst e; cases h
def I2.na (x:I2):Bool:=
 match x.c with
 | .ms _=>true
 | _=>notAnc x.b
def draw2OK (ops : Array Oper) (xs : List I2) : Bool :=
  (List.range ops.size).all fun j =>
    ((opAt ops j).after.toList.all fun e => !Region.binds .any e || e.on < j) &&
    ((List.range j).all fun i => apart2 ops (fun i => xs.getD i default) i j || ((anc ops).getD j 0).testBit i) &&
    (match (xs.getD j default).c.mk with
     | some κ => (List.range ops.size).all fun i => i == j || ((anc ops).getD i 0).testBit j || (nrA κ (xs.getD i default).av && ((xs.getD i default).pu || (xs.getD i default).blks.all (blkNr κ)))
     | none => true) && (xs.getD j default).na
theorem draw2OK_spec {xs:List I2} (h:draw2OK ops xs=true):(∀ j o,ops[j]? = some o→∀ e∈o.after.toList,Region.binds .any e=true→e.on < j) ∧
  (∀ i j,i < j→j < ops.size→apart2 ops (fun i=>xs.getD i default) i j=false→((anc ops).getD j 0).testBit i=true) ∧
  (∀ j κ,j < ops.size→(xs.getD j default).c.mk=some κ→∀ i,i < ops.size→i ≠ j→((anc ops).getD i 0).testBit j=false→NoRef κ (xs.getD i default).av∧((xs.getD i default).pu=false→∀ c,Blk.own c∈(xs.getD i default).blks→∀ (q:Nat) (h:q < c.length),NoRef κ c[q])) ∧
  (∀ j,j < ops.size→(xs.getD j default).na=true):=by
 unfold draw2OK at h
 rw [List.all_eq_true] at h
 refine ⟨?_,?_,?_,?_⟩
 rotate_left 3
 ·intro j hj
  have:=h j (by simpa using hj)
  rw [Bool.and_eq_true] at this
  exact this.2
 ·intro j o ho e he hb
  have hj:=(Array.getElem?_eq_some_iff.1 ho).1
  have:=h j (by simpa using hj)
  rw [Bool.and_eq_true,Bool.and_eq_true,Bool.and_eq_true] at this
  have h1:=(List.all_eq_true.1 this.1.1.1) e (by rw [opAt_of ho]; exact he)
  rw [hb] at h1
  simpa using h1
 ·intro i j hij hj ha
  have:=h j (by simpa using hj)
  rw [Bool.and_eq_true,Bool.and_eq_true,Bool.and_eq_true] at this
  have h1:=(List.all_eq_true.1 this.1.1.2) i (by simpa using hij)
  rw [ha,Bool.false_or] at h1
  exact h1
 intro j κ hj hc i hi hij hb
 have:=h j (by simpa using hj)
 rw [Bool.and_eq_true,Bool.and_eq_true,Bool.and_eq_true] at this
 have h1:=this.1.2
 rw [hc] at h1
 have h2:=(List.all_eq_true.1 h1) i (by simpa using hi)
 rw [hb] at h2
 have hij' : (i == j)=false:=by simpa using hij
 rw [hij',Bool.false_or,Bool.false_or,Bool.and_eq_true] at h2
 refine ⟨nrA_spec h2.1,fun hpu c hc' q hq=>?_⟩
 have h3:=h2.2
 rw [hpu,Bool.false_or] at h3
 exact nrA_spec ((List.all_eq_true.1 ((List.all_eq_true.1 h3) _ hc')) _ (List.getElem_mem hq))
end
end Go.Pv
namespace Go.Pv
open Go.RowKit
theorem get_of_hget:∀ {H:Heap} {k:Nat} {b:Blk},k < H.length→hget H k=b→H[k]? = some b
 | x :: r,0,b,_,h=>by simp only [hget] at h; simp [h]
 | x :: r,k + 1,b,hk,h=>by simpa using get_of_hget (H:=r) (by simpa using hk) h
 | [],k,b,hk,_=>by simp at hk
theorem hget_of_get:∀ {H:Heap} {k:Nat} {b:Blk},H[k]? = some b→hget H k=b
 | x :: r,0,b,h=>by simpa [hget] using h
 | x :: r,k + 1,b,h=>hget_of_get (H:=r) (by simpa using h)
 | [],k,b,h=>by simp at h
section
variable {P:Program} {ops:Array Oper}
theorem draw2_sound {Q:Exit→Act→World→Prop} {C:Ctx} {ds:List Deferred} {s s' : St} {xs:List I2} (hok:draw2OK ops xs=true) (hrun:Run2 P ops ops.toList xs s s') {m:Map} {a:Act} {w:World} (R:Rel C m s a.tmps w) (hd:a.defers=ds)
  (hQ:∀ m' (a' : Act) w',Rel C m' s' a'.tmps w'→a'.defers=ds→Q .normal a' w'):anyR P .any ops Q ops.size (Array.replicate ops.size false) a w:=by
 obtain ⟨hedge,hconf,hnr,hna⟩:=draw2OK_spec hok
 obtain ⟨I,hI⟩:∃ I:Nat→I2,I=fun i=>xs.getD i default:=⟨_,rfl⟩
 rw [← hI] at hconf
 have hna0:∀ j,j < ops.size→(I j).na=true:=by rw [hI]; exact hna
 have hnr0:∀ j κ,j < ops.size→(I j).c.mk=some κ→∀ i,i < ops.size→i ≠ j→((anc ops).getD i 0).testBit j=false→NoRef κ (I i).av∧((I i).pu=false→∀ c,Blk.own c∈(I i).blks→∀ (q:Nat) (h:q < c.length),NoRef κ c[q]):=by
  rw [hI]; exact hnr
 obtain ⟨hfact,rfl⟩:=facts2 (P:=P) (ops:=ops) (I:=I) (s:=s) (s':=s') ops.toList xs 0 (fun i=>by simp) (fun i x h=>by rw [hI]; simp [List.getD,h]) (by simp) hrun
 have hfact:∀ i o,ops[i]? = some o→Fact2 P ops I s i o:=fun i o=>hfact i o (Nat.zero_le _)
 have hna:∀ j,j < ops.size→∀ i k,Blk.anc i k ∉ (I j).blks:=by
  intro j hj i k hm
  have h0:=hna0 j hj
  obtain ⟨_,_,hh⟩:=hfact j ops[j] (Array.getElem?_eq_getElem hj)
  unfold I2.blks at hm
  unfold I2.na at h0
  rcases hh with ⟨_,e⟩ | ⟨_,h⟩
  ·rw [e] at hm; simp at hm
  unfold Loc2 at h
  split at hm
  ·rename_i l hc
   rw [hc] at h
   obtain ⟨p,hp,e⟩:=List.mem_map.1 hm
   exact h.1.2 p hp i k e
  split at h0
  ·rename_i hneg _ _ hc2
   exact absurd hc2 (hneg _)
  rw [List.mem_singleton] at hm
  exact notAnc_spec h0 i k hm.symm
 have hnr:∀ j κ,j < ops.size→(I j).c.mk=some κ→∀ i,i < ops.size→i ≠ j→((anc ops).getD i 0).testBit j=false→NoRef κ (I i).av∧∀ c,Blk.own c∈(I i).blks→∀ (q:Nat) (h:q < c.length),NoRef κ c[q]:=by
  intro j κ hj hc i hi hij hb
  obtain ⟨g1,g2⟩:=hnr0 j κ hj hc i hi hij hb
  refine ⟨g1,fun c hc' q hq=>?_⟩
  cases hpu:(I i).pu with
  | false=>exact g2 hpu c hc' q hq
  | true=>exact (hfact i ops[i] (Array.getElem?_eq_getElem hi)).pu hpu c hc' q hq κ
 have hfits:Fits I s ops ops.size:=by
  intro k hk
  obtain ⟨_,_,hh⟩:=hfact k ops[k] (Array.getElem?_eq_getElem hk)
  rcases hh with ⟨_,e⟩ | ⟨_,h⟩
  ·rw [e]; trivial
  unfold Loc2 at h
  cases hc:(I k).c with
  | f=>trivial
  | ld j=>rw [hc] at h; exact h.1
  | ms l=>rw [hc] at h; exact h.1.1
  | st j=>rw [hc] at h; exact h.1
  | nw j=>rw [hc] at h; exact h.1
  | ap i j=>rw [hc] at h; exact h.1
 obtain ⟨L,hL⟩:∃ L,(cS ops I s ops.size).H.length=s.H.length + L:=⟨(cS ops I s ops.size).H.length - s.H.length,by
  have:=cS_len_mono (ops:=ops) (I:=I) (s:=s) (Nat.zero_le ops.size)
  simp only [cS] at this; omega⟩
 have hall:=tD_all hfits hL
 have hκ0:∀ j κ,j < ops.size→(I j).c.mk=some κ→s.H.length≤κ∧κ < s.H.length + L:=by
  intro j κ hj hc
  have h1:=hfits j hj
  have h2:=cS_len_mono (ops:=ops) (I:=I) (s:=s) (Nat.zero_le j)
  have h3:=cS_len_mono (ops:=ops) (I:=I) (s:=s) (show j + 1≤ops.size from hj)
  simp only [cS] at h2
  cases hcc:(I j).c with
  | nw k =>
   rw [hcc] at h1 hc
   simp only [Cls.mk,Option.some.injEq] at hc
   simp only at h1
   have h4:(cS ops I s (j + 1)).H.length=(cS ops I s j).H.length + 1:=by
    simp only [cS]; rw [St.put_H]; simp only [nxtH,hcc]; simp
   omega
  | ap q k =>
   rw [hcc] at h1 hc
   simp only [Cls.mk,Option.some.injEq] at hc
   simp only at h1
   have h4:(cS ops I s (j + 1)).H.length=(cS ops I s j).H.length + 1:=by
    simp only [cS]; rw [St.put_H]; simp only [nxtH,hcc]; simp [hset_length]
   omega
  | f=>rw [hcc] at hc; simp [Cls.mk] at hc
  | ld _=>rw [hcc] at hc; simp [Cls.mk] at hc
  | st _=>rw [hcc] at hc; simp [Cls.mk] at hc
  | ms _=>rw [hcc] at hc; simp [Cls.mk] at hc
 have hs0:∀ κ,s.H.length≤κ→(∀ t,NoRef κ (s.get t))∧(∀ (j:Nat) (c:List AV),s.H[j]? = some (Blk.own c)→∀ (i:Nat) (h:i < c.length),NoRef κ c[i])∧∀ (b i j:Nat),s.H[b]? = some (Blk.anc i j)→j ≠ κ:=by
  intro κ hκ
  refine ⟨fun t=>(R.slot t).noRef hκ,fun j c hc i hi=>?_,fun b i j hb e=>by have:=(R.mp.2.2.1 b i j hb).1; omega⟩
  rcases R.blk j c hc with ⟨b1,_⟩ | ⟨l2,cur2,e2,_,_,_,_,_,_,b7⟩
  ·subst b1; simp at hi
  exact (b7 i hi).noRef hκ
 have key:∀ (fuel:Nat) (listed:Array Bool) (m:Map) (a:Act) (w:World),listed.size=ops.size→(List.range ops.size).countP (fun i=>!listed.getD i true)=fuel →
   (∀ j o,listed.getD j false=true→ops[j]? = some o→∀ e∈o.after.toList,Region.binds .any e=true→listed.getD e.on false=true) →
   Rel C m (tD ops I s L (fun i=>listed.getD i false) ops.size) a.tmps w→a.defers=ds→anyR P .any ops Q fuel listed a w:=by
  intro fuel
  induction fuel with
  | zero =>
   intro listed m a w hsz hcnt hcl R hd
   have hal:∀ i,i < ops.size→listed.getD i true=true:=by
    intro i hi
    have:=List.countP_eq_zero.1 hcnt i (by simpa using hi)
    simpa using this
   have hal' : ∀ i,i < ops.size→listed.getD i false=true:=by
    intro i hi
    have:=hal i hi
    simp [Array.getD_eq_getD_getElem?,Array.getElem?_eq_getElem (show i < listed.size by omega)] at this ⊢
    exact this
   obtain ⟨a1,a2⟩:=hall ops.size (Nat.le_refl _)
   refine ⟨?_,hQ m a w (R.congr (fun t=>?_) ?_ ?_) hd⟩
   ·unfold Region.ready
    rw [List.filter_eq_nil_iff]
    intro i hi
    have:=hal i (by simpa using hi)
    simp [this]
   ·rw [← a1]
    exact (tD_get_same _ _ t _ fun i hi _=>(hal' i hi)).symm
   ·refine hget_ext (by rw [hL,tD_len]) fun b=>?_
    rw [← a2]
    exact (tD_hget_same _ _ b _ fun i hi _=>(hal' i hi)).symm
   rw [tD_n,cS_n]
  | succ fuel ih =>
   intro listed m a w hsz hcnt hcl R hd
   refine ⟨fun hnil=>?_,fun j hj=>?_⟩
   ·
    exfalso
    have hex:∃ i,i < ops.size∧listed.getD i true=false:=by
     have:0 < (List.range ops.size).countP (fun i=>!listed.getD i true):=by omega
     obtain ⟨i,hi,h⟩:=List.countP_pos_iff.1 this
     exact ⟨i,by simpa using hi,by simpa using h⟩
    have hmin:∃ i,i < ops.size∧listed.getD i true=false∧∀ k,k < i→listed.getD k true=true:=by
     obtain ⟨i,hi,h⟩:=hex
     induction i using Nat.strongRecOn with
     | _ i ihh =>
      by_cases hall:∀ k,k < i→listed.getD k true=true
      ·exact ⟨i,hi,h,hall⟩
      simp only [Classical.not_forall] at hall
      obtain ⟨k,hk,hkn⟩:=hall
      exact ihh k hk (by omega) (by simpa using hkn)
    obtain ⟨i,hi,hli,hbelow⟩:=hmin
    have hmem:i∈Region.ready .any ops listed:=by
     unfold Region.ready
     rw [List.mem_filter]
     refine ⟨by simpa using hi,?_⟩
     rw [hli,Array.getElem?_eq_getElem hi]
     simp only [Bool.not_false,Bool.true_and,Option.map_some,Option.getD_some]
     rw [Array.all_eq_true_iff_forall_mem]
     intro e he
     by_cases hb:Region.binds .any e=true
     ·have hlt:=hedge i ops[i] (Array.getElem?_eq_getElem hi) e (by simpa using he) hb
      have:=hbelow e.on hlt
      have hlt' : e.on < listed.size:=by omega
      simp [Array.getD_eq_getD_getElem?,Array.getElem?_eq_getElem hlt'] at this ⊢
      simp [this]
     simp [hb]
    rw [hnil] at hmem
    simp at hmem
   unfold Region.ready at hj
   rw [List.mem_filter] at hj
   obtain ⟨hjlt,hj⟩:=hj
   have hjlt:j < ops.size:=by simpa using hjlt
   have hoj:ops[j]? = some ops[j]:=Array.getElem?_eq_getElem hjlt
   generalize ops[j]=o at hoj
   rw [hoj] at hj
   simp only [Option.map_some,Option.getD_some,Bool.and_eq_true,Bool.not_eq_eq_eq_not,Bool.not_true] at hj
   obtain ⟨hnl,hal⟩:=hj
   have hjls:j < listed.size:=by omega
   have hnl' : listed.getD j false=false:=by
    simp [Array.getD_eq_getD_getElem?,Array.getElem?_eq_getElem hjls] at hnl ⊢
    exact hnl
   have hpre:∀ e∈o.after.toList,Region.binds .any e=true→listed.getD e.on false=true:=by
    intro e he hb
    have:=(Array.all_eq_true_iff_forall_mem.1 hal) e (by simpa using he)
    rw [hb] at this
    simpa using this
   have hanc:∀ i,((anc ops).getD j 0).testBit i=true→listed.getD i false=true:=
    anc_in (D:=fun i=>listed.getD i false=true) hcl j j o (Nat.le_refl _) hoj hpre
   have hanc' : ∀ i,listed.getD i false=true→∀ oi,ops[i]? = some oi→∀ k,((anc ops).getD i 0).testBit k=true→listed.getD k false=true:=
    fun i hi oi hoi=>anc_in (D:=fun i=>listed.getD i false=true) hcl i i oi (Nat.le_refl _) hoi (hcl i oi hi hoi)
   have hod:opAt ops j=o:=opAt_of hoj
   have low:∀ i,i < j→apart2 ops I i j=false→listed.getD i false=true:=fun i hi ha=>hanc i (hconf i j hi hjlt ha)
   have high:∀ i,j < i→i < ops.size→listed.getD i false=true→apart2 ops I j i=true:=by
    intro i hi hlt hli
    have hoi:ops[i]? = some ops[i]:=Array.getElem?_eq_getElem hlt
    by_cases ha:apart2 ops I j i=true
    ·exact ha
    have:=hanc' i hli ops[i] hoi j (hconf j i hi hlt (by simpa using ha))
    rw [this] at hnl'; cases hnl'
   have ap1:∀ {i k:Nat},apart2 ops I i k=true→(opAt ops i).apart ops (opAt ops k)=true∧confl (I i).c (I k).c=false:=by
    intro i k h
    unfold apart2 at h
    simpa using h
   have agree:∀ t,t∈o.looksAt ops→(tD ops I s L (fun i=>listed.getD i false) ops.size).get t=(cS ops I s j).get t:=by
    intro t ht
    rw [← (hall j (by omega)).1,tD_get_stay _ t j ops.size (by omega) (fun i h1 h2 h3 h4=>?_)]
    ·refine tD_get_same _ _ t j fun i hi hdi=>?_
     rw [low i hi ?_]
     rw [Bool.eq_false_iff]
     intro hap
     have:=(ap1 hap).1
     rw [hod] at this
     exact (Oper.apart_spec this).1 t hdi ht
    by_cases hij:i=j
    ·subst hij; rw [hnl'] at h3; cases h3
    have:=(ap1 (high i (by omega) h2 h3)).1
    rw [hod] at this
    exact (Oper.apart_spec this).2.2 t h4 ht
   have agreeH:∀ b,(I j).c.tch b=true→hget (tD ops I s L (fun i=>listed.getD i false) ops.size).H b=hget (cS ops I s j).H b:=by
    intro b hb
    rw [← (hall j (by omega)).2,tD_hget_stay _ b j ops.size (by omega) (fun i h1 h2 h3=>?_)]
    ·refine tD_hget_same _ _ b j fun i hi hwi=>?_
     rw [low i hi ?_]
     rw [Bool.eq_false_iff]
     intro hap
     exact (confl_spec (ap1 hap).2 b).2 ⟨hwi,hb⟩
    by_cases hij:i=j
    ·subst hij; rw [hnl'] at h3; cases h3
    rw [Bool.eq_false_iff]
    intro hw
    exact (confl_spec (ap1 (high i (by omega) h2 h3)).2 b).1 ⟨hb,hw⟩
   have hlist:∀ i,(listed.setIfInBounds j true).getD i false=if i=j then true else listed.getD i false:=by
    intro i
    simp only [Array.getD_eq_getD_getElem?]
    by_cases hij:i=j
    ·subst hij; rw [Array.getElem?_setIfInBounds_self_of_lt hjls,if_pos rfl]; rfl
    rw [Array.getElem?_setIfInBounds_ne (Ne.symm hij),if_neg hij]
   have insertGet:∀ t,(tD ops I s L (fun i=>(listed.setIfInBounds j true).getD i false) ops.size).get t=if o.dst=some t then (I j).av else (tD ops I s L (fun i=>listed.getD i false) ops.size).get t:=by
    intro t
    have base:∀ k,k≤j→(tD ops I s L (fun i=>(listed.setIfInBounds j true).getD i false) k).get t=(tD ops I s L (fun i=>listed.getD i false) k).get t:=fun k hk =>
     tD_get_same _ _ t k fun i hi _=>by rw [hlist,if_neg (by omega)]
    have step:∀ n,j + 1≤n→n≤ops.size→(tD ops I s L (fun i=>(listed.setIfInBounds j true).getD i false) n).get t=if o.dst=some t then (I j).av else (tD ops I s L (fun i=>listed.getD i false) n).get t:=by
     intro n hn hns
     induction n with
     | zero=>omega
     | succ n ihn =>
      by_cases hnj:n=j
      ·subst hnj
       rw [tD_get,tD_get,hod,base n (Nat.le_refl _),hlist,if_pos rfl,hnl']
       by_cases hdt:o.dst=some t
       ·simp [hdt]
       simp [hdt]
      rw [tD_get,tD_get,ihn (by omega) (by omega),hlist,if_neg hnj]
      by_cases hln:listed.getD n false=true∧(opAt ops n).dst=some t
      ·rw [if_pos hln,if_pos hln]
       have hap:=(ap1 (high n (by omega) (by omega) hln.1)).1
       rw [hod] at hap
       by_cases hdt:o.dst=some t
       ·exact absurd hln.2 ((Oper.apart_spec hap).2.1 t hdt)
       rw [if_neg hdt]
      rw [if_neg hln,if_neg hln]
    exact step ops.size (by omega) (Nat.le_refl _)
   have insertH:∀ b,hget (tD ops I s L (fun i=>(listed.setIfInBounds j true).getD i false) ops.size).H b=if (I j).c.wrt b=true∧b < s.H.length + L then wv (I j) b else hget (tD ops I s L (fun i=>listed.getD i false) ops.size).H b:=by
    intro b
    have base:∀ k,k≤j→hget (tD ops I s L (fun i=>(listed.setIfInBounds j true).getD i false) k).H b=hget (tD ops I s L (fun i=>listed.getD i false) k).H b:=fun k hk =>
     tD_hget_same _ _ b k fun i hi _=>by rw [hlist,if_neg (by omega)]
    have step:∀ n,j + 1≤n→n≤ops.size→hget (tD ops I s L (fun i=>(listed.setIfInBounds j true).getD i false) n).H b=if (I j).c.wrt b=true∧b < s.H.length + L then wv (I j) b else hget (tD ops I s L (fun i=>listed.getD i false) n).H b:=by
     intro n hn hns
     induction n with
     | zero=>omega
     | succ n ihn =>
      by_cases hnj:n=j
      ·subst hnj
       rw [tD_hget,tD_hget,base n (Nat.le_refl _),hlist,if_pos rfl,hnl']
       by_cases hdt:(I n).c.wrt b=true∧b < s.H.length + L
       ·rw [if_pos ⟨rfl,hdt⟩,if_pos hdt]
       rw [if_neg (fun hh=>hdt hh.2),if_neg hdt,if_neg (fun hh=>by cases hh.1)]
      rw [tD_hget,tD_hget,ihn (by omega) (by omega),hlist,if_neg hnj]
      by_cases hln:listed.getD n false=true∧(I n).c.wrt b=true∧b < s.H.length + L
      ·rw [if_pos hln,if_pos hln]
       have hap:=(ap1 (high n (by omega) (by omega) hln.1)).2
       by_cases hdt:(I j).c.wrt b=true
       ·exact absurd ⟨hdt,Cls.wrt_tch hln.2.1⟩ (confl_spec hap b).2
       rw [if_neg (fun hh=>hdt hh.1)]
      rw [if_neg hln,if_neg hln]
    exact step ops.size (by omega) (Nat.le_refl _)
   have hcnt' : (List.range ops.size).countP (fun i=>!(listed.setIfInBounds j true).getD i true)=fuel:=by
    have hsplit:∀ (l:List Nat),l.Nodup→j∈l→l.countP (fun i=>!listed.getD i true)=l.countP (fun i=>!(listed.setIfInBounds j true).getD i true) + 1:=by
     intro l
     induction l with
     | nil=>intro _ h; simp at h
     | cons x r ihl =>
      intro hnd hmem
      have hx:∀ i,i ≠ j→(listed.setIfInBounds j true).getD i true=listed.getD i true:=by
       intro i hi
       simp only [Array.getD_eq_getD_getElem?]
       rw [Array.getElem?_setIfInBounds_ne (Ne.symm hi)]
      rw [List.nodup_cons] at hnd
      by_cases hxj:x=j
      ·subst hxj
       have e1:(listed.setIfInBounds x true).getD x true=true:=by
        simp only [Array.getD_eq_getD_getElem?]
        rw [Array.getElem?_setIfInBounds_self_of_lt hjls]; rfl
       rw [List.countP_cons,List.countP_cons,hnl,e1]
       have:r.countP (fun i=>!listed.getD i true)=r.countP (fun i=>!(listed.setIfInBounds x true).getD i true):=by
        apply List.countP_congr
        intro i hi
        rw [hx i (fun e=>hnd.1 (e ▸ hi))]
       simp only [this,Bool.not_false,Bool.not_true,if_true,Bool.false_eq_true,if_false,Nat.add_zero]
      rw [List.countP_cons,List.countP_cons,hx x hxj,ihl hnd.2 (by rcases List.mem_cons.1 hmem with h | h; exact absurd h.symm hxj; exact h)]
      omega
    have:=hsplit (List.range ops.size) List.nodup_range (by simpa using hjlt)
    omega
   have hcl' : ∀ i oi,(listed.setIfInBounds j true).getD i false=true→ops[i]? = some oi→∀ e∈oi.after.toList,Region.binds .any e=true→(listed.setIfInBounds j true).getD e.on false=true:=by
    intro i oi hi hoi e he hb
    rw [hlist] at hi ⊢
    by_cases hij:i=j
    ·subst hij
     rw [hoj] at hoi; cases hoi
     rw [hpre e he hb]; simp
    rw [if_neg hij] at hi
    rw [hcl i oi hi hoi e he hb]; simp
   have hTlen:(tD ops I s L (fun i=>listed.getD i false) ops.size).H.length=s.H.length + L:=tD_len _ _
   have next:∀ (m' : Map) (a' : Act) (w' : World),(∃ s2:St,Rel C m' s2 a'.tmps w'∧(∀ t,s2.get t=if o.dst=some t then (I j).av else (tD ops I s L (fun i=>listed.getD i false) ops.size).get t) ∧
      (s2.H=updC (I j) (tD ops I s L (fun i=>listed.getD i false) ops.size).H)∧s2.n=s.n)→a'.defers=ds→anyR P .any ops Q fuel (listed.setIfInBounds j true) a' w':=by
    rintro m' a' w' ⟨s2,R2,e1,e2,e3⟩ hd'
    refine ih _ m' a' w' (by simpa using hsz) hcnt' hcl' (R2.congr (fun t=>?_) ?_ ?_) hd'
    ·rw [insertGet,e1]
    ·rw [e2]
     refine hget_ext (by rw [tD_len,updC_len,hTlen]) fun b=>?_
     rw [insertH,updC_hget,hTlen]
    rw [tD_n,e3]
   have hgd:∀ b,guardA ops (cS ops I s j) o=some b→guardA ops (tD ops I s L (fun i=>listed.getD i false) ops.size) o=some b:=by
    intro b h
    unfold guardA at h ⊢
    split at h
    ·exact h
    rename_i g want e
    split at h
    ·rename_i d hdd
     have:(tD ops I s L (fun i=>listed.getD i false) ops.size).get d=(cS ops I s j).get d:=agree d (by
      unfold Oper.looksAt
      rw [e]
      simp [hdd])
     rw [this]
     exact h
    cases h
   have hsn:(tD ops I s L (fun i=>listed.getD i false) ops.size).n=s.n:=tD_n _ _
   obtain ⟨_,fd,fh⟩:=hfact j o hoj
   unfold onR
   rw [hoj]
   simp only
   rcases fh with ⟨hg,hIj⟩ | ⟨hg,hloc⟩
   ·rw [guardA_wanted (P:=P) R (hgd _ hg)]
    simp only [Bool.false_eq_true,if_false]
    refine next m _ w ⟨_,R.put (fun t ht=>by rw [hsn]; exact fd t ht) (.p _ _ reads_un),fun t=>?_,?_,?_⟩ (by rw [put_defers]; exact hd)
    ·rw [get_put,hIj]
    ·rw [St.put_H,hIj]; rfl
    rw [St.put_n,hsn]
   rw [guardA_wanted (P:=P) R (hgd _ hg)]
   simp only [if_true]
   left
   have hag:Agree o (cS ops I s j) (tD ops I s L (fun i=>listed.getD i false) ops.size):=by
    intro x hx
    cases x with
    | tmp t =>
     simp only [St.ev]
     refine agree t ?_
     unfold Oper.looksAt
     rw [List.mem_append]
     left
     rw [List.mem_filterMap]
     exact ⟨.tmp t,by simpa using hx,rfl⟩
    | _=>rfl
   have hn2:(tD ops I s L (fun i=>listed.getD i false) ops.size).n=(cS ops I s j).n:=by rw [tD_n,cS_n]
   have fin:DoesW P o (tD ops I s L (fun i=>listed.getD i false) ops.size) (I j).av (updC (I j) (tD ops I s L (fun i=>listed.getD i false) ops.size).H) →
     opR P o a w (anyR P .any ops Q fuel (listed.setIfInBounds j true)) Q:=by
    intro hdo
    refine hdo C m a w _ Q R fun v m' w' R' hv=>?_
    refine next m' _ w' ⟨_,R'.put (fun t ht=>by simp only; rw [hsn]; exact fd t ht) hv,fun t=>?_,?_,?_⟩ (by rw [put_defers]; exact hd)
    ·rw [get_put]; rfl
    ·rw [St.put_H]
    rw [St.put_n]; exact hsn
   have fresh:∀ k,(I j).c.mk=some k→(I j).c.tch k=true→(cS ops I s j).H.length=k→(tD ops I s L (fun i=>listed.getD i false) ops.size).H[k]? = some .dead∧(∀ t,NoRef k ((tD ops I s L (fun i=>listed.getD i false) ops.size).get t))∧(∀ (b:Nat) (c:List AV),(tD ops I s L (fun i=>listed.getD i false) ops.size).H[b]? = some (Blk.own c)→∀ (q:Nat) (h:q < c.length),NoRef k c[q])∧∀ (b i j' : Nat),(tD ops I s L (fun i=>listed.getD i false) ops.size).H[b]? = some (Blk.anc i j')→j' ≠ k:=by
    intro k hc htch hlk
    obtain ⟨k1,k2⟩:=hκ0 j k hjlt hc
    have hD:∀ i,i < ops.size→listed.getD i false=true→i ≠ j∧((anc ops).getD i 0).testBit j=false:=by
     intro i hi hli
     refine ⟨fun e=>by (subst e; rw [hnl'] at hli; cases hli),?_⟩
     rw [Bool.eq_false_iff]
     intro hb
     have:=hanc' i hli ops[i] (Array.getElem?_eq_getElem hi) j hb
     rw [this] at hnl'; cases hnl'
    have hno:∀ n,n≤ops.size→(∀ t,NoRef k ((tD ops I s L (fun i=>listed.getD i false) n).get t))∧(∀ (b:Nat) (c:List AV),hget (tD ops I s L (fun i=>listed.getD i false) n).H b=Blk.own c→∀ (q:Nat) (h:q < c.length),NoRef k c[q])∧∀ (b i j' : Nat),hget (tD ops I s L (fun i=>listed.getD i false) n).H b=Blk.anc i j'→j' ≠ k:=by
     intro n
     induction n with
     | zero =>
      intro _
      refine ⟨(hs0 k k1).1,fun b c hb=>?_,fun b i j' hb=>?_⟩
      ·simp only [tD] at hb
       by_cases hlt:b < s.H.length
       ·rw [hget_app1 hlt] at hb
        exact (hs0 k k1).2.1 b c (hget_mut hb)
       rw [hget_app2 (by omega),hget_rep] at hb
       cases hb
      simp only [tD] at hb
      by_cases hlt:b < s.H.length
      ·rw [hget_app1 hlt] at hb
       exact (hs0 k k1).2.2 b i j' (hget_some hb (by simp))
      rw [hget_app2 (by omega),hget_rep] at hb
      cases hb
     | succ n ihn =>
      intro hn
      obtain ⟨i1,i2,i3⟩:=ihn (by omega)
      refine ⟨fun t=>?_,fun b c hb=>?_,fun b i j' hb=>?_⟩
      ·rw [tD_get]
       by_cases hh:listed.getD n false=true∧(opAt ops n).dst=some t
       ·rw [if_pos hh]
        obtain ⟨d1,d2⟩:=hD n (by omega) hh.1
        exact (hnr j k hjlt hc n (by omega) d1 d2).1
       rw [if_neg hh]; exact i1 t
      ·rw [tD_hget] at hb
       by_cases hh:listed.getD n false=true∧(I n).c.wrt b=true∧b < s.H.length + L
       ·rw [if_pos hh] at hb
        obtain ⟨d1,d2⟩:=hD n (by omega) hh.1
        refine (hnr j k hjlt hc n (by omega) d1 d2).2 c ?_
        rcases wv_blks (I n) b with h1 | h1
        ·rw [hb] at h1; cases h1
        rw [hb] at h1; exact h1
       rw [if_neg hh] at hb; exact i2 b c hb
      rw [tD_hget] at hb
      by_cases hh:listed.getD n false=true∧(I n).c.wrt b=true∧b < s.H.length + L
      ·rw [if_pos hh] at hb
       rcases wv_blks (I n) b with h1 | h1
       ·rw [hb] at h1; cases h1
       rw [hb] at h1; exact absurd h1 (hna n (by omega) i j')
      rw [if_neg hh] at hb; exact i3 b i j' hb
    obtain ⟨n1,n2,n3⟩:=hno ops.size (Nat.le_refl _)
    have hkl:k < (tD ops I s L (fun i=>listed.getD i false) ops.size).H.length:=by rw [hTlen]; exact k2
    have hdead:hget (tD ops I s L (fun i=>listed.getD i false) ops.size).H k = .dead:=by
     rw [agreeH k htch]
     exact hget_out (by omega)
    exact ⟨get_of_hget hkl hdead,n1,fun b c hb=>n2 b c (hget_of_get hb),fun b i j' hb=>n3 b i j' (hget_of_get hb)⟩
   apply fin
   unfold Loc2 at hloc
   unfold updC
   cases hc:(I j).c with
   | f=>rw [hc] at hloc; exact hloc _ hn2 hag
   | ld k=>rw [hc] at hloc; exact hloc.2 _ hn2 hag (agreeH k (by rw [hc]; simp [Cls.tch]))
   | st k=>rw [hc] at hloc; exact hloc.2 _ hn2 hag (agreeH k (by rw [hc]; simp [Cls.tch]))
   | ms l=>rw [hc] at hloc; exact hloc.2 _ hn2 hag fun p hp=>⟨by have h1:=hloc.1.1 p hp; have h2:=cS_len_mono (ops:=ops) (I:=I) (s:=s) (show j≤ops.size by omega); rw [hTlen]; omega,agreeH p.1 (by rw [hc]; simp only [Cls.tch]; exact List.any_eq_true.2 ⟨p,hp,by simp⟩)⟩
   | nw k =>
    rw [hc] at hloc
    obtain ⟨a1,a2,a3,a4⟩:=fresh k (by rw [hc]; rfl) (by rw [hc]; simp [Cls.tch]) hloc.1.symm
    exact hloc.2 _ hn2 hag a1 a2 a3 a4
   | ap q k =>
    rw [hc] at hloc
    obtain ⟨a1,a2,a3,a4⟩:=fresh k (by rw [hc]; rfl) (by rw [hc]; simp [Cls.tch]) hloc.1.2.symm
    exact hloc.2 _ hn2 hag (agreeH q (by rw [hc]; simp [Cls.tch])) a1 a2 a3 a4
 refine key ops.size (Array.replicate ops.size false) m a w (by simp) ?_ ?_ ?_ hd
 ·have:∀ i∈List.range ops.size,(!(Array.replicate ops.size false).getD i true)=true:=by
   intro i hi
   have hi:i < ops.size:=by simpa using hi
   simp [Array.getD_eq_getD_getElem?,hi]
  rw [List.countP_eq_length.2 this]
  simp
 ·intro j o hj
  exfalso
  simp only [Array.getD_eq_getD_getElem?,Array.getElem?_replicate] at hj
  split at hj<;>simp at hj
 refine (R.pad L).congr (fun t=>?_) ?_ (tD_n _ _)
 ·refine tD_get_stay _ t 0 ops.size (Nat.zero_le _) fun i _ hi h=>?_
  simp only [Array.getD_eq_getD_getElem?,Array.getElem?_replicate] at h
  split at h<;>simp at h
 refine hget_ext (by rw [tD_len]; simp) fun b=>?_
 refine tD_hget_stay _ b 0 ops.size (Nat.zero_le _) fun i _ hi h=>?_
 simp only [Array.getD_eq_getD_getElem?,Array.getElem?_replicate] at h
 split at h<;>simp at h
end
section
variable {P:Program} {T:TypeId→Option TI}
def allIsP:List AV→Bool
 | []=>true
 | .p _ :: r=>allIsP r
 | _=>false
theorem capsA_pure (H H2:Heap):∀ l:List AV,allIsP l=true→capsA H2 l=capsA H l
 | [],_=>rfl
 | x :: r,h=>by
  cases x with
  | p v =>
   have ih:=capsA_pure H H2 r h
   simp only [capsA,capA,ih]
  | _=>simp [allIsP] at h
def clsA (s:St):Op→Option Cls
 | .load _ x=>match s.ev x with | .ptr k _=>some (.ld k) | .p (.ptr _)=>some .f | _=>none
 | .store _ x _=>match s.ev x with | .ptr k _=>some (.st k) | _=>none
 | .alloc _=>some (.nw s.H.length)
 | .call { callee:=.builtin .append,args,.. }=>match args.toList.map s.ev with | [.sl k _ _,.p _]=>some (.ap k s.H.length) | _=>none
 | .lookup _ x _ _=>match s.ev x with | .mptr k=>some (.ld k) | _=>none
 | .makeFunc _ _ caps=>bif allIsP (caps.toList.map s.ev) then some .f else none
 | op=>bif isT op then none else some .f
def blkOf (c:Cls) (H:Heap):Blk:=
 match c with
 | .st k=>hget H k
 | .nw k=>hget H k
 | .ap _ k=>hget H k
 | _=>.dead
theorem cv_noRef (κ:Nat) (v:Value):NoRef κ (cv v):=by
 unfold cv; split<;>constructor
theorem appendA_own {ti:TI} {H:Heap} {k lo len:Nat} {v:PV} {r:OV} (h:appendA T ti H (.sl k lo len) (.p v)=some r) :
  ∃ (cc:List AV) (xs:List PV) (V:Prop),hget H k = .own cc∧∀ H2:Heap,hget H2 k = .own cc→appendA T ti H2 (.sl k lo len) (.p v)=some ⟨V,.sl H2.length 0 (len + xs.length),hset H2 k .dead++[.own ((cc.drop lo).take len++xs.map .p)]⟩:=by
 unfold appendA at h ⊢
 cases hk:ti.kind with
 | slice e =>
  rw [hk] at h
  simp only at h ⊢
  cases hte:T e with
  | none=>rw [hte] at h; cases h
  | some te =>
   rw [hte] at h
   simp only at h ⊢
   cases hg:hget H k with
   | dead=>rw [hg] at h; cases v<;>simp [elemsA] at h
   | mp _ _ _=>rw [hg] at h; cases v<;>simp [elemsA] at h
   | anc _ _=>rw [hg] at h; cases v<;>simp [elemsA] at h
   | lp _=>rw [hg] at h; cases v<;>simp [elemsA] at h
   | fro d=>rw [hg] at h; cases v<;>simp [elemsA] at h
   | own cc =>
    cases v with
    | list l=>exact ⟨cc,l,_,rfl,fun H2 h2=>by simp only [elemsA,h2,List.length_map]; rfl⟩
    | nn l=>exact ⟨cc,l,_,rfl,fun H2 h2=>by simp only [elemsA,h2,List.length_map]; rfl⟩
    | nil=>exact ⟨cc,[],_,rfl,fun H2 h2=>by simp only [elemsA,h2,List.length_nil,List.map_nil]; rfl⟩
    | _=>rw [hg] at h; simp [elemsA] at h
 | _=>rw [hk] at h; cases h
theorem lookupA_loc {ti:TI} {ok:Bool} {H:Heap} {k:Nat} {y:AV} {r:OV} (h:lookupA T ti ok H (.mptr k) y=some r):k < H.length∧∀ H2:Heap,hget H2 k=hget H k→lookupA T ti ok H2 (.mptr k) y=some { r with H:=H2 }:=by
 unfold lookupA at h ⊢
 split at h
 ·split at h
  ·simp only at h
   split at h
   ·rename_i kk d v zp hg hz
    simp only [Option.some.injEq] at h
    subst h
    refine ⟨(List.getElem?_eq_some_iff.1 (hget_some hg (by simp))).1,fun H2 h2=>?_⟩
    simp_all
   cases h
  cases h
 cases h
theorem opA_loc2 (hT:∀ t ti,T t=some ti→tiOf P t=some ti) {o:Oper} {s:St} {r:OV} {c:Cls} (hc:clsA s o.op=some c) (h:opA T s o.op=some r) (hvc:r.vc) :
  Loc2 P o s ⟨c,r.av,blkOf c r.H,false⟩∧r.H=nxtH ⟨c,r.av,blkOf c r.H,false⟩ s.H:=by
 have free:isT o.op=false→c = .f→Loc2 P o s ⟨c,r.av,blkOf c r.H,false⟩∧r.H=nxtH ⟨c,r.av,blkOf c r.H,false⟩ s.H:=by
  rintro hf rfl
  refine ⟨?_,(opA_free hf h).1⟩
  intro s2 hn ha
  have h1:=(opA_free hf h).2 s2.H
  have:=opA_congr (T:=T) (s:={ s with H:=s2.H }) (s2:=s2) (op:=o.op) (fun x hx=>by rw [ha x hx]; cases x<;>rfl) rfl
  rw [h1] at this
  exact (opA_does hT this hvc).wp
 generalize hop:o.op=op at *
 cases op with
 | makeFunc fn first caps =>
  simp only [clsA] at hc
  cases hp:allIsP (caps.toList.map s.ev) with
  | false=>rw [hp] at hc; cases hc
  | true =>
   rw [hp] at hc
   simp only [cond_true,Option.some.injEq] at hc
   subst hc
   have hr:r.H=s.H:=by
    cases fn with
    | func f =>
     simp only [opA] at h
     cases hf:first.isEmpty<;>rw [hf] at h
     ·cases h
     exact makeFuncA_H h
    | _=>simp [opA] at h
   refine ⟨?_,hr⟩
   intro s2 hn ha
   have h2:opA T s2 o.op=some { r with H:=s2.H }:=by
    rw [hop]
    have hm:caps.toList.map s2.ev=caps.toList.map s.ev:=List.map_congr_left fun x hx=>ha x (by rw [hop]; simp only [Op.operands]; simp; right; simpa using hx)
    cases fn with
    | func f =>
     simp only [opA] at h ⊢
     cases hf:first.isEmpty<;>rw [hf] at h
     ·cases h
     simp only [cond_true] at h ⊢
     rw [hm]
     unfold makeFuncA at h ⊢
     rw [capsA_pure s.H s2.H _ hp]
     cases hcp:capsA s.H (caps.toList.map s.ev) with
     | none=>rw [hcp] at h; cases h
     | some x=>rw [hcp] at h; obtain ⟨p1,l1⟩:=x; simp only [Option.some.injEq] at h ⊢; subst h; rfl
    | _=>simp [opA] at h
   exact (opA_does hT h2 hvc).wp
 | lookup t x y ok =>
  simp only [clsA] at hc
  simp only [opA] at h
  cases hti:T t with
  | none=>rw [hti] at h; cases h
  | some ti =>
   rw [hti] at h
   simp only at h
   have hx:∀ s2:St,Agree o s s2→s2.ev x=s.ev x:=fun s2 ha=>ha x (by rw [hop]; simp [Op.operands])
   have hy:∀ s2:St,Agree o s s2→s2.ev y=s.ev y:=fun s2 ha=>ha y (by rw [hop]; simp [Op.operands])
   cases hev:s.ev x with
   | mptr k =>
    rw [hev] at hc h
    simp only [Option.some.injEq] at hc
    subst hc
    obtain ⟨hkl,hloc⟩:=lookupA_loc h
    refine ⟨⟨hkl,fun s2 hn ha hH=>?_⟩,lookupA_H h⟩
    have h2:opA T s2 o.op=some { r with H:=s2.H }:=by
     rw [hop]
     simp only [opA,hti,hx s2 ha,hy s2 ha,hev]
     exact hloc s2.H hH
    exact (opA_does hT h2 hvc).wp
   | _=>rw [hev] at hc; cases hc
 | load t x =>
  simp only [clsA] at hc
  simp only [opA] at h
  cases hti:T t with
  | none=>rw [hti] at h; cases h
  | some ti =>
   rw [hti] at h
   simp only at h
   have hx:∀ s2:St,Agree o s s2→s2.ev x=s.ev x:=fun s2 ha=>ha x (by rw [hop]; simp [Op.operands])
   cases hev:s.ev x with
   | ptr k i =>
    rw [hev] at hc h
    simp only [Option.some.injEq] at hc
    subst hc
    have hkl:k < s.H.length:=by
     simp only [loadA] at h
     cases hg:hget s.H k with
     | dead=>rw [hg] at h; cases h
     | mp _ _ _=>rw [hg] at h; cases h
     | anc _ _=>rw [hg] at h; cases h
     | lp _=>rw [hg] at h; cases h
     | own d=>exact (List.getElem?_eq_some_iff.1 (hget_mut hg)).1
     | fro d=>exact (List.getElem?_eq_some_iff.1 (hget_fro hg)).1
    refine ⟨⟨hkl,fun s2 hn ha hH=>?_⟩,loadA_H h⟩
    have h2:opA T s2 o.op=some { r with H:=s2.H }:=by
     rw [hop]
     simp only [opA,hti,hx s2 ha,hev]
     simp only [loadA] at h ⊢
     rw [hH]
     cases hg:hget s.H k with
     | dead=>rw [hg] at h; cases h
     | mp _ _ _=>rw [hg] at h; cases h
     | anc _ _=>rw [hg] at h; cases h
     | lp _=>rw [hg] at h; cases h
     | own d=>rw [hg] at h; cases hr:isRow ti.kind<;>rw [hr] at h<;>simp only [cond_true,cond_false,Option.some.injEq] at h ⊢<;>subst h<;>rfl
     | fro d=>rw [hg] at h; cases hr:isRow ti.kind<;>rw [hr] at h<;>simp only [cond_true,cond_false,Option.some.injEq] at h ⊢<;>subst h<;>rfl
    exact (opA_does hT h2 hvc).wp
   | p v =>
    rw [hev] at hc h
    cases v with
    | ptr d =>
     simp only [Option.some.injEq] at hc
     subst hc
     refine ⟨?_,loadA_H h⟩
     intro s2 hn ha
     have h2:opA T s2 o.op=some { r with H:=s2.H }:=by
      rw [hop]
      simp only [opA,hti,hx s2 ha,hev]
      simp only [loadA] at h ⊢
      cases hr:isRow ti.kind<;>rw [hr] at h<;>simp only [cond_true,cond_false,Option.some.injEq] at h ⊢<;>subst h<;>rfl
     exact (opA_does hT h2 hvc).wp
    | _=>cases hc
   | _=>rw [hev] at hc; cases hc
 | store t x v =>
  simp only [clsA] at hc
  simp only [opA] at h
  cases hti:T t with
  | none=>rw [hti] at h; cases h
  | some ti =>
   rw [hti] at h
   simp only at h
   have hx:∀ s2:St,Agree o s s2→s2.ev x=s.ev x:=fun s2 ha=>ha x (by rw [hop]; simp [Op.operands])
   have hv:∀ s2:St,Agree o s s2→s2.ev v=s.ev v:=fun s2 ha=>ha v (by rw [hop]; simp [Op.operands])
   cases hev:s.ev x with
   | ptr k i =>
    rw [hev] at hc h
    simp only [Option.some.injEq] at hc
    subst hc
    simp only [storeA] at h
    cases hg:hget s.H k with
    | dead=>rw [hg] at h; cases h
    | mp _ _ _=>rw [hg] at h; cases h
    | anc _ _=>rw [hg] at h; cases h
    | lp _=>rw [hg] at h; cases h
    | fro d=>rw [hg] at h; cases h
    | own d =>
     rw [hg] at h
     simp only [Option.some.injEq] at h
     have hkl:k < s.H.length:=(List.getElem?_eq_some_iff.1 (hget_mut hg)).1
     have hb:hget r.H k = .own (setC d i (s.ev v).cells):=by
      rw [← h]; simp only; rw [hget_hset_same _ _ _ hkl]
     refine ⟨⟨hkl,fun s2 hn ha hH=>?_⟩,?_⟩
     ·have h2:opA T s2 o.op=some { r with H:=hset s2.H k (.own (setC d i (s.ev v).cells)) }:=by
       rw [hop]
       simp only [opA,hti,hx s2 ha,hv s2 ha,hev,storeA,hH,hg]
       rw [← h]
      simp only [blkOf]
      rw [hb]
      exact (opA_does hT h2 hvc).wp
     simp only [nxtH,blkOf]
     rw [hb,← h]
   | p v=>rw [hev] at hc; cases hc
   | dead=>rw [hev] at hc; cases hc
   | sl _ _ _=>rw [hev] at hc; cases hc
   | agg _=>rw [hev] at hc; cases hc
   | tup _=>rw [hev] at hc; cases hc
   | cl _ _=>rw [hev] at hc; cases hc
   | itv _=>rw [hev] at hc; cases hc
   | sls _ _ _ _=>rw [hev] at hc; cases hc
   | mptr _=>rw [hev] at hc; cases hc
   | yv _ _ _=>rw [hev] at hc; cases hc
 | alloc t =>
  simp only [clsA,Option.some.injEq] at hc
  subst hc
  simp only [opA] at h
  cases hti:T t with
  | none=>rw [hti] at h; cases h
  | some ti =>
   rw [hti] at h
   simp only [Option.some.injEq] at h
   have hb:hget r.H s.H.length = .own (ti.zero.map cv):=by
    rw [← h]; simp only [allocA]; rw [hget_app2 (Nat.le_refl _),Nat.sub_self]; rfl
   refine ⟨⟨rfl,fun s2 hn ha hd n1 n2 n3=>?_⟩,?_⟩
   ·simp only [blkOf]
    rw [hb]
    have hav:r.av = .ptr s.H.length 0:=by rw [← h]; rfl
    rw [hav]
    have hvc' : (allocA ti s2.H).vc:=by
     have:(allocA ti s.H).vc:=by rw [h]; exact hvc
     exact this
    refine Does.wp fun C m a w R=>?_
    obtain ⟨v,w',m',hy,R',hv⟩:=allocA_does hT R (o:=o) hop hti hvc'
    obtain ⟨g1,g2,_⟩:=Rel.move R (b:=.own (ti.zero.map cv)) R' hd n3 (fun _ _ h=>by cases h) n1 n2 fun c hc i hi=>by
     cases hc
     rw [List.getElem_map]
     exact ⟨cv_noRef _ _,cv_noRef _ _⟩
    exact ⟨v,w',_,hy,g1,g2 0 v hv⟩
   simp only [nxtH,blkOf]
   rw [hb,← h]; rfl
 | call c' =>
  obtain ⟨callee,args,ts⟩:=c'
  have other:clsA s (.call ⟨callee,args,ts⟩)=(bif isT (.call ⟨callee,args,ts⟩) then none else some .f)→Loc2 P o s ⟨c,r.av,blkOf c r.H,false⟩∧r.H=nxtH ⟨c,r.av,blkOf c r.H,false⟩ s.H:=by
   intro e
   rw [e] at hc
   cases hf:isT (.call ⟨callee,args,ts⟩) with
   | true=>rw [hf] at hc; cases hc
   | false=>rw [hf] at hc; exact free hf (by simpa using hc.symm)
  cases callee with
  | builtin b =>
   cases b with
   | append =>
    simp only [clsA] at hc
    split at hc<;>simp only [Option.some.injEq,reduceCtorEq] at hc
    rename_i k lo len v hl
    subst hc
    have hev:∀ s2:St,Agree o s s2→args.toList.map s2.ev=[.sl k lo len,.p v]:=by
     intro s2 ha
     rw [← hl]
     exact List.map_congr_left fun x hx=>ha x (by rw [hop]; simp [Op.operands,Call.operands]; simpa using hx)
    simp only [opA] at h
    rw [hl] at h
    obtain ⟨t,ti,hts,hti,h⟩:∃ t ti,ts.toList=[t,t]∧T t=some ti∧appendA T ti s.H (.sl k lo len) (.p v)=some r:=by
     unfold builtinA at h
     split at h<;>simp only [reduceCtorEq] at *
     rename_i a1 a2 sv xv t t' ea e2 e3
     simp only [List.cons.injEq,and_true] at ea
     obtain ⟨rfl,rfl⟩:=ea
     cases hti:T t with
     | none=>rw [hti] at h; cases h
     | some ti =>
      rw [hti] at h
      simp only at h
      by_cases ht:t=t'
      ·rw [if_pos ht] at h; subst ht; exact ⟨t,ti,e2,hti,h⟩
      rw [if_neg ht] at h; cases h
    obtain ⟨cc,xs,V,hg,hall⟩:=appendA_own h
    have hr:r=⟨V,.sl s.H.length 0 (len + xs.length),hset s.H k .dead++[.own ((cc.drop lo).take len++xs.map .p)]⟩:=by
     have:=hall s.H hg
     rw [h] at this
     exact Option.some.inj this
    have hkl:k < s.H.length:=(List.getElem?_eq_some_iff.1 (hget_mut hg)).1
    have hb:hget r.H s.H.length = .own ((cc.drop lo).take len++xs.map .p):=by
     rw [hr]; simp only; rw [hget_app2 (by rw [hset_length]; exact Nat.le_refl _),hset_length,Nat.sub_self]; rfl
    have hV:V:=by rw [hr] at hvc; exact hvc
    refine ⟨⟨⟨hkl,rfl⟩,fun s2 hn ha hH hd n1 n2 n3=>?_⟩,?_⟩
    ·simp only [blkOf]
     rw [hb,hr]
     rw [hg] at hH
     have h2:opA T s2 o.op=some ⟨V,.sl s2.H.length 0 (len + xs.length),hset s2.H k .dead++[.own ((cc.drop lo).take len++xs.map .p)]⟩:=by
      rw [hop]
      simp only [opA]
      rw [hev s2 ha,hts]
      simp only [builtinA,hti,if_true]
      exact hall s2.H hH
     have hkne:k ≠ s.H.length:=by omega
     have hdd:(hset s2.H k .dead)[s.H.length]? = some .dead:=by
      rw [hset_get,if_neg (fun hh=>hkne hh.1.symm)]; exact hd
     refine Does.wp fun C m a w R=>?_
     obtain ⟨v',w',m',hy,R',hv⟩:=opA_does hT h2 hV C m a w R
     have hlen:(hset s2.H k .dead).length=s2.H.length:=hset_length _ _ _
     have hown:∀ (j:Nat) (c:List AV),(hset s2.H k .dead)[j]? = some (Blk.own c)→s2.H[j]? = some (Blk.own c):=by
      intro j c hj
      rw [hset_get] at hj
      by_cases e:j=k∧k < s2.H.length
      ·rw [if_pos e] at hj; cases hj
      rw [if_neg e] at hj; exact hj
     obtain ⟨g1,_,g2⟩:=Rel.move (s:={ s2 with H:=hset s2.H k .dead }) (R.kill k) (b:=.own ((cc.drop lo).take len++xs.map .p)) R' hdd (fun b i j hj=>n3 b i j (by rw [hset_get] at hj; by_cases e:b=k∧k < s2.H.length; (rw [if_pos e] at hj; cases hj); (rw [if_neg e] at hj; exact hj))) (fun _ _ h=>by cases h) n1 (fun j c hj=>n2 j c (hown j c hj)) fun c hc i hi=>by
      cases hc
      have hcc:=hget_mut hH
      by_cases hlt:i < ((cc.drop lo).take len).length
      ·rw [List.getElem_append_left hlt]
       simp only [List.getElem_take,List.getElem_drop]
       have hi2:lo + i < cc.length:=by
        simp only [List.length_take,List.length_drop] at hlt; omega
       refine ⟨n2 k cc hcc _ hi2,?_⟩
       simp only [hlen]
       rcases R.blk k cc hcc with ⟨b1,_⟩ | ⟨l2,cur2,e2,_,_,_,_,_,_,b7⟩
       ·subst b1; simp at hi2
       exact (b7 _ hi2).noRef (Nat.le_refl _)
      rw [List.getElem_append_right (by omega),List.getElem_map]
      exact ⟨.p _,.p _⟩
     simp only [hlen] at g1 g2 hv
     exact ⟨v',w',_,hy,g1,g2 _ _ v' hv⟩
    simp only [nxtH,blkOf]
    rw [hb,hr]
   | _=>exact other rfl
  | _=>exact other rfl
 | _=>simp only [clsA] at hc; first|(simp only [isT,cond_true,cond_false,Option.some.injEq,reduceCtorEq] at hc; done)|exact free rfl (by simpa [isT] using hc.symm)
inductive X2 where
 | run (vc:Prop) (s:St) (acc:List I2)
 | stop (vc:Prop) (rest:List Oper) (s:St) (acc:List I2)
def xstep2 (T:TypeId→Option TI) (all:Array Oper) (o:Oper) (rest:List Oper) (vc:Prop) (s:St) (acc:List I2):X2:=
 match guardA all s o with
 | some true =>
  match clsA s o.op,opA T s o.op with
  | some c,some r=>.run (vc∧dstOk s o.dst∧r.vc) (after o s r) (acc++[⟨c,r.av,blkOf c r.H,false⟩])
  | _,_=>.stop vc (o :: rest) s acc
 | some false=>.run (vc∧dstOk s o.dst) (s.put o.dst (.p (.tup []))) (acc++[⟨.f,.p (.tup []),.dead,false⟩])
 | none=>.stop vc (o :: rest) s acc
def aops2 (T:TypeId→Option TI) (all:Array Oper):List Oper→X2→X2
 | [],x=>x
 | o :: r,.run vc s acc=>aops2 T all r (xstep2 T all o r vc s acc)
 | _ :: _,.stop vc rest s acc=>.stop vc rest s acc
def Runs2 (P:Program) (all:Array Oper) (rest:List Oper) (K:St→List I2→Prop) (s:St) (acc:List I2):Prop:=∃ s' xs,Run2 P all rest xs s s'∧K s' (acc++xs)
def fin2 (P:Program) (all:Array Oper) (K:St→List I2→Prop):X2→Prop
 | .run vc s acc=>vc∧K s acc
 | .stop vc rest s acc=>vc∧Runs2 P all rest K s acc
theorem aops2_stop (all:Array Oper) (l:List Oper) (vc:Prop) (rest:List Oper) (s:St) (acc:List I2):aops2 T all l (.stop vc rest s acc) = .stop vc rest s acc:=by cases l<;>rfl
theorem aops2_sound (hT:∀ t ti,T t=some ti→tiOf P t=some ti) {all:Array Oper} {K:St→List I2→Prop} : ∀ (ops:List Oper) (vc:Prop) (s:St) (acc:List I2),fin2 P all K (aops2 T all ops (.run vc s acc))→vc∧Runs2 P all ops K s acc
 | [],vc,s,acc,h=>⟨h.1,s,[],.nil s,by rw [List.append_nil]; exact h.2⟩
 | o :: r,vc,s,acc,h=>by
  simp only [aops2,xstep2] at h
  split at h
  ·rename_i hg
   split at h
   ·rename_i c ov hcl hov
    obtain ⟨⟨h1,h2,h3⟩,s',xs,hr,hK⟩:=aops2_sound hT r _ _ _ h
    obtain ⟨g1,g2⟩:=opA_loc2 hT hcl hov h3
    refine ⟨h1,s',_ :: xs,.op hg (dstOk_spec h2) g1 (fun h=>by cases h) ?_,by rw [List.append_assoc] at hK; exact hK⟩
    rw [← g2]
    exact hr
   rw [aops2_stop] at h; exact h
  ·rename_i hg
   obtain ⟨⟨h1,h2⟩,s',xs,hr,hK⟩:=aops2_sound hT r _ _ _ h
   exact ⟨h1,s',_ :: xs,.skip hg (dstOk_spec h2) hr,by rw [List.append_assoc] at hK; exact hK⟩
  rw [aops2_stop] at h; exact h
theorem runs2_eval (hT:∀ t ti,T t=some ti→tiOf P t=some ti) {all:Array Oper} {rest:List Oper} {K:St→List I2→Prop} {s:St} {acc:List I2} (h:fin2 P all K (aops2 T all rest (.run True s acc))):Runs2 P all rest K s acc:=
 (aops2_sound hT rest True s acc h).2
def isP:AV→Bool
 | .p _=>true
 | _=>false
theorem runs2_call {all:Array Oper} {rest:List Oper} {K:St→List I2→Prop} {acc:List I2} {s:St} {dst:Option Tmp} {ty:TypeId} {pos:String} {aft:Array Edge} {gd:Option (Nat × Bool)} {fo:Operand} {args:Array Operand} {ts:Array TypeId} {g:FuncId} {avs:List PV} {p:Prop} {b:Bool} {r:PV}
  (hc:FnC P g avs r) (hg:guardA all s { dst:=dst,op:=.call { callee:=.value fo,args:=args,argTypes:=ts },type:=ty,pos:=pos,after:=aft,guard:=gd } = some true)
  (hcall:callA s fo args=some (g,avs,p,b)) (hb:(b || r.flatOnly)=true) (hpure:args.toList.all (fun x=>isP (s.ev x))=true) (hd:dstOk s dst) (hp:p) (h:Runs2 P all rest K (s.put dst (.p r)) (acc++[⟨.f,.p r,.dead,false⟩])) :
  Runs2 P all ({ dst:=dst,op:=.call { callee:=.value fo,args:=args,argTypes:=ts },type:=ty,pos:=pos,after:=aft,guard:=gd } :: rest) K s acc:=by
 obtain ⟨s',xs,hr,hK⟩:=h
 refine ⟨s',⟨.f,.p r,.dead,false⟩ :: xs,.op hg (dstOk_spec hd) ?_ (fun h=>by cases h) hr,by rw [List.append_assoc] at hK; exact hK⟩
 intro s2 hn ha
 have ha' : ∀ x∈(Op.call { callee:=.value fo,args:=args,argTypes:=ts }).operands,s2.ev x=s.ev x:=ha
 simp only [Op.operands,Call.operands] at ha'
 have h1:s2.ev fo=s.ev fo:=ha' fo (by simp)
 have h2:args.toList.map s2.ev=args.toList.map s.ev:=List.map_congr_left fun x hx=>ha' x (by simp; right; simpa using hx)
 have h3:∀ l:List AV,l.all isP=true→peekList (peekG s2.H) l=peekList (peekG s.H) l:=by
  intro l
  induction l with
  | nil=>intro _; rfl
  | cons x l ih =>
   intro hl
   simp only [List.all_cons,Bool.and_eq_true] at hl
   simp only [peekList]
   rw [ih hl.2]
   cases x with
   | p v=>rfl
   | _=>simp [isP] at hl
 have:callA s2 fo args=some (g,avs,p,b):=by
  rw [← hcall]
  unfold callA
  rw [h1,h2,h3 _ (by rw [List.all_map]; exact hpure)]
 exact call_does rfl hc this hp hb
def isPk (k:Nat):AV→Bool
 | .p _=>true
 | .sl j _ _=>j == k
 | _=>false
theorem fin2_run {all:Array Oper} {K:St→List I2→Prop} {vc:Prop} {s:St} {acc:List I2} (h1:vc) (h2:K s acc):fin2 P all K (.run vc s acc):=⟨h1,h2⟩
theorem fin2_stop {all:Array Oper} {K:St→List I2→Prop} {vc:Prop} {r:List Oper} {s:St} {acc:List I2} (h1:vc) (h2:Runs2 P all r K s acc):fin2 P all K (.stop vc r s acc):=⟨h1,h2⟩
theorem hk_draw2 {Q:Exit→St→Prop} {s:St} {id:Nat} {l:List Oper} (hm:P.follows .mixedOrders=true) (h:∀ K:St→List I2→Prop,(∀ s' xs,draw2OK l.toArray xs=true→Q .normal s'→K s' xs)→Runs2 P l.toArray l K s []):Holds P (.region id l.toArray true) Q s:=by
 intro r ds C m a w R hd
 obtain ⟨s',xs,hr,hK⟩:=h (fun s' xs=>draw2OK l.toArray xs=true∧Q .normal s') fun _ _ h1 h2=>⟨h1,h2⟩
 rw [List.nil_append] at hK
 refine wpR_region_any hm ?_
 exact draw2_sound hK.1 (by simpa using hr) (R.later ⟨rfl,rfl,rfl,Nat.le_refl _,fun _ _=>rfl,Nat.le_succ _⟩) hd fun m' a' w' R' hd'=>⟨s',m',hK.2,R',hd'⟩
end
def evD:=And.intro @aops2.eq_1
 <| And.intro @aops2.eq_2
 <| And.intro @aops2.eq_3
 <| And.intro @xstep2.eq_1
 <| And.intro @clsA.eq_1
 <| And.intro @clsA.eq_2
 <| And.intro @clsA.eq_3
 <| And.intro @clsA.eq_4
 <| And.intro @clsA.eq_5
 <| And.intro @clsA.eq_6
 <| And.intro @clsA.eq_7
 <| And.intro @allIsP.eq_1
 <| And.intro @allIsP.eq_2
 <| And.intro @blkOf.eq_1
 <| And.intro @blkOf.eq_2
 <| And.intro @blkOf.eq_3
 <| And.intro @blkOf.eq_4
 <| And.intro @isT.eq_1
 <| And.intro @isT.eq_2
 <| And.intro @isT.eq_3
 <| And.intro @isT.eq_4
 <| And.intro @isT.eq_5
 <| And.intro @isT.eq_6
 <| And.intro @isT.eq_7
 <| And.intro @isT.eq_8
 <| And.intro @isT.eq_9
 <| And.intro @isT.eq_10
 <| And.intro @isT.eq_11
 <| And.intro @isT.eq_12
 <| And.intro @isT.eq_13
 <| And.intro @isT.eq_14
 <| And.intro @isT.eq_15
 <| And.intro @isT.eq_16
 <| And.intro @isT.eq_17
 <| And.intro @isP.eq_1
 <| And.intro @isP.eq_2
 <| And.intro @isPk.eq_1
 <| And.intro @isPk.eq_2
 <| And.intro @isPk.eq_3
 <| And.intro @cond_true.{0}
 <| @cond_false.{0}
def qa:=@thn_n
def qb:=@thn_r
def qc:=@thn_x
def qd:=@inb_n
def qe:=@inb_r
def qf:=@inb_x
def qh:=@hk_skip
def qj:=@hk_exit
def qk:=@hk_ret
def ql:=@hk_block
def qm:=@hk_seq
end Go.Pv

namespace Go.Proofs.YtjlmpmidchddjaaDoor
open Lean.Grind
attribute [local instance] Lean.Grind.Semiring.natCast Lean.Grind.Ring.intCast
section
variable {K:Type} [CommRing K]
def sm (f:Nat→K):Nat→K
 | 0=>0
 | n + 1=>sm f n + f n
theorem sm_congr {f g:Nat→K} {n:Nat} (h:∀ i,i < n→f i=g i):sm f n=sm g n:=by
 induction n with
 | zero=>rfl
 | succ n ih=>rw [sm,sm,ih fun i hi=>h i (by omega),h n (by omega)]
theorem sm_zero {f:Nat→K} {n:Nat} (h:∀ i,i < n→f i=0):sm f n=0:=by
 induction n with
 | zero=>rfl
 | succ n ih=>rw [sm,ih fun i hi=>h i (by omega),h n (by omega)]; grind
theorem sm_add (f g:Nat→K) (n:Nat):sm (fun i=>f i + g i) n=sm f n + sm g n:=by
 induction n with
 | zero=>simp only [sm]; grind
 | succ n ih=>simp only [sm,ih]; grind
theorem sm_sub (f g:Nat→K) (n:Nat):sm (fun i=>f i - g i) n=sm f n - sm g n:=by
 induction n with
 | zero=>simp only [sm]; grind
 | succ n ih=>simp only [sm,ih]; grind
theorem sm_mul (k:K) (f:Nat→K) (n:Nat):sm (fun i=>k * f i) n=k * sm f n:=by
 induction n with
 | zero=>simp only [sm]; grind
 | succ n ih=>simp only [sm,ih]; grind
theorem sm_mulr (k:K) (f:Nat→K) (n:Nat):sm (fun i=>f i * k) n=sm f n * k:=by
 induction n with
 | zero=>simp only [sm]; grind
 | succ n ih=>simp only [sm,ih]; grind
theorem sm_comm (f:Nat→Nat→K) (n m:Nat):sm (fun i=>sm (fun j=>f i j) m) n=sm (fun j=>sm (fun i=>f i j) n) m:=by
 induction n with
 | zero=>simp only [sm]; exact (sm_zero fun _ _=>rfl).symm
 | succ n ih=>simp only [sm,ih,sm_add]
theorem sm_one {f:Nat→K} {n i:Nat} (hi:i < n) (h:∀ j,j < n→j ≠ i→f j=0):sm f n=f i:=by
 induction n with
 | zero=>omega
 | succ n ih =>
  rw [sm]
  by_cases e:i=n
  ·subst e
   rw [sm_zero fun j hj=>h j (by omega) (by omega)]; grind
  rw [ih (by omega) fun j hj=>h j (by omega),h n (by omega) (by omega)]; grind
theorem sm_const (k:K) (n:Nat):sm (fun _=>k) n=(n:K) * k:=by
 induction n with
 | zero=>simp only [sm]; grind
 | succ n ih=>simp only [sm,ih]; grind
def sl (l:List Nat) (f:Nat→K):K:=l.foldr (fun x r=>f x + r) 0
theorem sl_cons (x:Nat) (l:List Nat) (f:Nat→K):sl (x :: l) f=f x + sl l f:=rfl
theorem sl_app (l l' : List Nat) (f:Nat→K):sl (l++l') f=sl l f + sl l' f:=by
 induction l with
 | nil=>simp only [List.nil_append,sl,List.foldr_nil]; grind
 | cons x l ih=>simp only [List.cons_append,sl_cons,ih]; grind
theorem sl_range (f:Nat→K) (n:Nat):sl (List.range n) f=sm f n:=by
 induction n with
 | zero=>rfl
 | succ n ih=>rw [List.range_succ,sl_app,ih,sm,sl_cons]; simp only [sl,List.foldr_nil]; grind
theorem sl_perm {l l' : List Nat} (h:l.Perm l') (f:Nat→K):sl l f=sl l' f:=by
 induction h with
 | nil=>rfl
 | cons x _ ih=>rw [sl_cons,sl_cons,ih]
 | swap x y l=>simp only [sl_cons]; grind
 | trans _ _ h1 h2=>rw [h1,h2]
theorem sl_map (l:List Nat) (σ:Nat→Nat) (f:Nat→K):sl (l.map σ) f=sl l fun x=>f (σ x):=by
 induction l with
 | nil=>rfl
 | cons x l ih=>rw [List.map_cons,sl_cons,sl_cons,ih]
theorem nodup_sub_perm:∀ {l l' : List Nat},l.Nodup→(∀ x∈l,x∈l')→l'.length≤l.length→l.Perm l'
 | [],l',_,_,h=>by
  have:l' = []:=List.length_eq_zero_iff.1 (by simpa using h)
  rw [this]
 | x :: l,l',h1,h2,h3=>by
  obtain ⟨h1a,h1b⟩:=List.nodup_cons.1 h1
  have hx:x∈l':=h2 x (by simp)
  have hp:=List.perm_cons_erase hx
  refine (List.Perm.cons x (nodup_sub_perm h1b (fun y hy=>?_) ?_)).trans hp.symm
  ·have hne:y ≠ x:=fun e=>h1a (e ▸ hy)
   exact (List.mem_erase_of_ne hne).2 (h2 y (by simp [hy]))
  rw [List.length_erase_of_mem hx]
  simp at h3; omega
theorem sm_bij {σ:Nat→Nat} {n:Nat} (h1:∀ i,i < n→σ i < n) (h2:∀ i j,i < n→j < n→σ i=σ j→i=j) (f:Nat→K):sm (fun i=>f (σ i)) n=sm f n:=by
 rw [← sl_range,← sl_range,← sl_map]
 refine sl_perm (nodup_sub_perm ?_ (fun x hx=>?_) (by simp)) f
 ·rw [List.nodup_iff_pairwise_ne,List.pairwise_map]
  refine (List.nodup_iff_pairwise_ne.1 (List.nodup_range (n:=n))).imp_of_mem fun {a b} ha hb hab e=>hab (h2 a b (List.mem_range.1 ha) (List.mem_range.1 hb) e)
 obtain ⟨i,hi,rfl⟩:=List.mem_map.1 hx
 exact List.mem_range.2 (h1 i (List.mem_range.1 hi))
def Fld (K:Type) [CommRing K]:Prop:=(∀ a:K,a ≠ 0→∃ b,a * b=1)∧(1:K) ≠ 0
theorem Fld.mul {K:Type} [CommRing K] (h:Fld K) {a b:K} (hab:a * b=0):a=0∨b=0:=by
 by_cases ha:a=0
 ·exact .inl ha
 obtain ⟨c,hc⟩:=h.1 a ha
 exact .inr (by grind)
theorem hom_sol (F:Fld K):∀ (r:Nat) (A:Nat→Nat→K),∃ x:Nat→K,(∃ j,j≤r∧x j ≠ 0)∧∀ i,i < r→sm (fun j=>A i j * x j) (r + 1)=0
 | 0,A=>⟨fun _=>1,⟨0,Nat.le_refl _,F.2⟩,fun i hi=>absurd hi (Nat.not_lt_zero _)⟩
 | r + 1,A=>by
  by_cases h:∃ i0,i0 < r + 1∧A i0 (r + 1) ≠ 0
  ·obtain ⟨i0,h1,h2⟩:=h
   obtain ⟨b,hb⟩:=F.1 _ h2
   obtain ⟨x,⟨j0,hj0,hx0⟩,hx⟩:=hom_sol F r fun i j=>A (if i < i0 then i else i + 1) j - A (if i < i0 then i else i + 1) (r + 1) * b * A i0 j
   obtain ⟨y,hy⟩:∃ y,y = -b * sm (fun j=>A i0 j * x j) (r + 1):=⟨_,rfl⟩
   refine ⟨fun j=>if j=r + 1 then y else x j,⟨j0,by omega,by show (if j0=r + 1 then y else x j0) ≠ 0; rw [if_neg (by omega)]; exact hx0⟩,fun i hi=>?_⟩
   have e1:∀ i,sm (fun j=>A i j * (if j=r + 1 then y else x j)) (r + 1)=sm (fun j=>A i j * x j) (r + 1):=fun i=>sm_congr fun j hj=>by rw [if_neg (by omega)]
   rw [sm,e1]
   show _ + A i (r + 1) * (if r + 1=r + 1 then y else x (r + 1))=0
   rw [if_pos rfl]
   by_cases e:i=i0
   ·subst e
    rw [hy]; grind
   have h3:∃ i',i' < r∧(if i' < i0 then i' else i' + 1)=i:=by
    by_cases h4:i < i0
    ·exact ⟨i,by omega,if_pos h4⟩
    exact ⟨i - 1,by omega,by rw [if_neg (by omega)]; omega⟩
   obtain ⟨i',h5,h6⟩:=h3
   have h7:=hx i' h5
   rw [h6] at h7
   have e2:sm (fun j=>(A i j - A i (r + 1) * b * A i0 j) * x j) (r + 1)=sm (fun j=>A i j * x j) (r + 1) - A i (r + 1) * b * sm (fun j=>A i0 j * x j) (r + 1):=by
    rw [← sm_mul,← sm_sub]
    exact sm_congr fun j _=>by grind
   rw [e2] at h7
   rw [hy]; grind
  refine ⟨fun j=>if j=r + 1 then 1 else 0,⟨r + 1,Nat.le_refl _,by show (if r + 1=r + 1 then (1:K) else 0) ≠ 0; rw [if_pos rfl]; exact F.2⟩,fun i hi=>?_⟩
  have h0:A i (r + 1)=0:=Classical.byContradiction fun hc=>h ⟨i,hi,hc⟩
  rw [sm,sm_zero fun j hj=>by show A i j * (if j=r + 1 then 1 else 0)=0; rw [if_neg (by omega)]; grind,h0]
  grind
def IndV (y:Nat→Nat→K) (q:Nat):Prop:=∀ x:Nat→K,(∀ k,sm (fun j=>x j * y j k) q=0)→∀ j,j < q→x j=0
theorem ind_le (F:Fld K) {y z:Nat→Nat→K} {q r:Nat} (hy:IndV y q) (h:∀ j,j < q→∃ C:Nat→K,∀ k,y j k=sm (fun i=>C i * z i k) r):q≤r:=by
 refine Nat.le_of_not_lt fun hlt=>?_
 have h' : ∀ j,∃ C:Nat→K,j < q→∀ k,y j k=sm (fun i=>C i * z i k) r:=fun j=>by
  by_cases hj:j < q
  ·obtain ⟨C,hC⟩:=h j hj; exact ⟨C,fun _=>hC⟩
  exact ⟨fun _=>0,fun hj2=>absurd hj2 hj⟩
 obtain ⟨C,hC⟩:=Classical.axiomOfChoice h'
 obtain ⟨x,⟨j0,hj0,hx0⟩,hx⟩:=hom_sol F r fun i j=>C j i
 refine hx0 ?_
 have h2:=hy (fun j=>if j≤r then x j else 0) (fun k=>?_) j0 (by omega)
 ·rwa [if_pos hj0] at h2
 have e0:sm (fun j=>(if j≤r then x j else 0) * y j k) q=sm (fun j=>(if j≤r then x j else 0) * y j k) (r + 1):=by
  obtain ⟨d,rfl⟩:∃ d,q=r + 1 + d:=⟨q - (r + 1),by omega⟩
  clear hy hC hlt h h'
  induction d with
  | zero=>rfl
  | succ d ih =>
   rw [show r + 1 + (d + 1)=(r + 1 + d) + 1 by omega,sm,ih,if_neg (by omega)]; grind
 rw [e0]
 have e1:sm (fun j=>(if j≤r then x j else 0) * y j k) (r + 1)=sm (fun j=>sm (fun i=>C j i * x j * z i k) r) (r + 1):=sm_congr fun j hj=>by
  rw [if_pos (by omega),hC j (by omega) k,← sm_mul]
  exact sm_congr fun i _=>by grind
 rw [e1,sm_comm]
 refine sm_zero fun i hi=>?_
 rw [sm_mulr,hx i hi]; grind
end
section
variable {K:Type} [CommRing K]
def sW (l:List Nat):Nat→(List Nat→K)→K
 | 0,h=>h []
 | k + 1,h=>sl l fun x=>sW l k fun w=>h (x :: w)
theorem sl_congr {l:List Nat} {f g:Nat→K} (h:∀ x∈l,f x=g x):sl l f=sl l g:=by
 induction l with
 | nil=>rfl
 | cons x l ih=>rw [sl_cons,sl_cons,h x (by simp),ih fun y hy=>h y (by simp [hy])]
theorem sl_zero {l:List Nat} {f:Nat→K} (h:∀ x∈l,f x=0):sl l f=0:=by
 induction l with
 | nil=>rfl
 | cons x l ih=>rw [sl_cons,h x (by simp),ih fun y hy=>h y (by simp [hy])]; grind
theorem sl_add (l:List Nat) (f g:Nat→K):sl l (fun x=>f x + g x)=sl l f + sl l g:=by
 induction l with
 | nil=>simp only [sl,List.foldr_nil]; grind
 | cons x l ih=>simp only [sl_cons,ih]; grind
theorem sl_mul (k:K) (l:List Nat) (f:Nat→K):sl l (fun x=>k * f x)=k * sl l f:=by
 induction l with
 | nil=>simp only [sl,List.foldr_nil]; grind
 | cons x l ih=>simp only [sl_cons,ih]; grind
theorem sl_comm (l l' : List Nat) (f:Nat→Nat→K):sl l (fun x=>sl l' fun y=>f x y)=sl l' fun y=>sl l fun x=>f x y:=by
 induction l with
 | nil=>simp only [sl,List.foldr_nil]; exact (sl_zero fun _ _=>rfl).symm
 | cons x l ih=>simp only [sl_cons,ih,sl_add]
theorem sW_congr {l:List Nat} : ∀ {k:Nat} {f g:List Nat→K},(∀ w,w.length=k→(∀ x∈w,x∈l)→f w=g w)→sW l k f=sW l k g
 | 0,f,g,h=>h [] rfl (by simp)
 | k + 1,f,g,h=>sl_congr fun x hx=>sW_congr fun w hw hl=>h (x :: w) (by simp [hw]) (by simp; exact ⟨hx,hl⟩)
theorem sW_add {l:List Nat} : ∀ {k:Nat} (f g:List Nat→K),sW l k (fun w=>f w + g w)=sW l k f + sW l k g
 | 0,f,g=>rfl
 | k + 1,f,g=>by
  simp only [sW,sW_add]
  rw [sl_add]
theorem sW_mul {l:List Nat} (c:K):∀ {k:Nat} (f:List Nat→K),sW l k (fun w=>c * f w)=c * sW l k f
 | 0,f=>rfl
 | k + 1,f=>by
  simp only [sW,sW_mul]
  rw [sl_mul]
theorem sW_last {l:List Nat} : ∀ {k:Nat} (h:List Nat→K),sW l (k + 1) h=sl l fun x=>sW l k fun w=>h (w++[x])
 | 0,h=>rfl
 | k + 1,h=>by
  show sl l (fun x=>sW l (k + 1) fun w=>h (x :: w))=_
  have e:∀ x,sW l (k + 1) (fun w=>h (x :: w))=sl l fun y=>sW l k fun w=>h (x :: (w++[y])):=fun x=>sW_last _
  rw [sl_congr fun x _=>e x,sl_comm]
  rfl
def rot1:List Nat→List Nat
 | []=>[]
 | x :: w=>w++[x]
theorem sW_rot {l:List Nat} {k:Nat} (h:List Nat→K):sW l (k + 1) (fun w=>h (rot1 w))=sW l (k + 1) h:=by
 rw [sW_last h]; rfl
def cntW (x:Nat) (w:List Nat):Nat:=w.countP (· == x)
def plcW (x:Nat):List Nat→K
 | []=>0
 | y :: w=>plcW x w + (cntW x w:Nat)
theorem cntW_app (x:Nat) (u v:List Nat):cntW x (u++v)=cntW x u + cntW x v:=by simp [cntW]
theorem cntW_cons (x y:Nat) (w:List Nat):cntW x (y :: w)=cntW x w + if y=x then 1 else 0:=by
 simp [cntW,List.countP_cons]
theorem plcW_snoc (x y:Nat):∀ w:List Nat,(plcW x (w++[y]):K)=plcW x w + (w.length:Nat) * (if y=x then 1 else 0:Nat)
 | []=>by
  simp only [List.nil_append,plcW,cntW,List.countP_nil,List.length_nil]; grind
 | z :: w=>by
  have h1:=plcW_snoc x y w
  simp only [List.cons_append,plcW,h1,cntW_app,List.length_cons]
  have h2:cntW x [y]=if y=x then 1 else 0:=by simp [cntW,List.countP_cons]
  rw [h2]
  split<;>grind
theorem plcW_rot {p:Nat} (hp:(p:K)=0) {w:List Nat} (hw:w.length=p) (hw0:0 < p) (x:Nat):(plcW x (rot1 w):K)=plcW x w - (cntW x w:Nat):=by
 cases w with
 | nil=>simp at hw; omega
 | cons y w =>
  simp only [rot1,plcW_snoc,plcW,cntW_cons]
  simp only [List.length_cons] at hw
  have:((w.length:Nat):K) + 1=0:=by rw [← hp,← hw]; grind
  split<;>grind
theorem cntW_rot (x:Nat) (w:List Nat):cntW x (rot1 w)=cntW x w:=by
 cases w with
 | nil=>rfl
 | cons y w =>
  simp only [rot1,cntW_app,cntW_cons]
  simp [cntW]
end
end Go.Proofs.YtjlmpmidchddjaaDoor

namespace Go.Proofs.YtjlmpmidchddjaaDoor
open Lean.Grind
attribute [local instance] Lean.Grind.Semiring.natCast Lean.Grind.Ring.intCast
section
variable {K:Type} [CommRing K]
theorem cntW_le (x:Nat) (w:List Nat):cntW x w≤w.length:=List.countP_le_length
theorem cntW_full {x:Nat} {w:List Nat} (h:cntW x w=w.length):w=List.replicate w.length x:=by
 refine List.eq_replicate_iff.2 ⟨rfl,fun y hy=>?_⟩
 have:=List.countP_eq_length.1 h y hy
 simpa using this
theorem cntW_rep (x k:Nat):cntW x (List.replicate k x)=k:=by simp [cntW,List.countP_replicate]
theorem cntW_pos {x:Nat} {w:List Nat} : 0 < cntW x w↔x∈w:=by
 unfold cntW
 rw [List.countP_pos_iff]
 constructor
 ·rintro ⟨a,h1,h2⟩
  have:a=x:=by simpa using h2
  exact this ▸ h1
 intro h; exact ⟨x,h,by simp⟩
def mxl (l w:List Nat):Nat:=(l.find? fun x=>decide (0 < cntW x w)).getD 0
theorem mxl_rot (l w:List Nat):mxl l (rot1 w)=mxl l w:=by unfold mxl; simp only [cntW_rot]
theorem mxl_mem {l w:List Nat} (h:∃ x∈l,x∈w):mxl l w∈w:=by
 unfold mxl
 cases hf:l.find? fun x=>decide (0 < cntW x w) with
 | none =>
  obtain ⟨x,h1,h2⟩:=h
  have:=List.find?_eq_none.1 hf x h1
  simp only [decide_eq_true_eq] at this
  exact absurd (cntW_pos.2 h2) this
 | some x =>
  have:=List.find?_some hf
  simp only [decide_eq_true_eq] at this
  exact cntW_pos.1 this
theorem sl_single {l:List Nat} (hl:l.Nodup) {x:Nat} (hx:x∈l) {f:Nat→K} (h:∀ y∈l,y ≠ x→f y=0):sl l f=f x:=by
 induction l with
 | nil=>simp at hx
 | cons y l ih =>
  obtain ⟨h1,h2⟩:=List.nodup_cons.1 hl
  rw [sl_cons]
  by_cases e:y=x
  ·subst e
   rw [sl_zero fun z hz=>h z (by simp [hz]) (fun e=>h1 (e ▸ hz))]; grind
  rw [ih h2 (by rcases List.mem_cons.1 hx with h | h; exact absurd h.symm e; exact h) fun z hz=>h z (by simp [hz]),h y (by simp) e]; grind
theorem sW_rep {l:List Nat} (hl:l.Nodup) {x:Nat} (hx:x∈l):∀ (k:Nat) (h:List Nat→K),(sW l k fun w=>if cntW x w=k then h w else 0)=h (List.replicate k x)
 | 0,h=>by simp [sW,cntW]
 | k + 1,h=>by
  rw [sW,sl_single hl hx fun y hy hne=>?_]
  ·have e:∀ w:List Nat,(if cntW x (x :: w)=k + 1 then h (x :: w) else 0)=if cntW x w=k then h (x :: w) else 0:=fun w=>by
    rw [cntW_cons,if_pos rfl]
    by_cases e:cntW x w=k
    ·rw [if_pos e,if_pos (by omega)]
    rw [if_neg e,if_neg (by omega)]
   simp only [e]
   rw [sW_rep hl hx k fun w=>h (x :: w)]
   rfl
  have:=sW_congr (l:=l) (k:=k) (f:=fun w=>if cntW x (y :: w)=k + 1 then h (y :: w) else 0) (g:=fun _=>(0:K)) fun w hw _=>by
   rw [cntW_cons,if_neg hne,if_neg]
   have:=cntW_le x w
   omega
  rw [this]
  have h0:=sW_mul (l:=l) (0:K) (k:=k) fun _=>(0:K)
  have h1:(fun _:List Nat=>(0:K) * 0)=fun _=>0:=by funext w; grind
  rw [h1] at h0
  rw [h0]; grind
theorem sW_turn (F:Fld K) {p:Nat} (hp0:0 < p) (hp:(p:K)=0) (hc:∀ a:Nat,0 < a→a < p→(a:K) ≠ 0) {l:List Nat} (hl:l.Nodup) {f:List Nat→K} (hf:∀ w,f (rot1 w)=f w) :
  sW l p f=sl l fun x=>f (List.replicate p x):=by
 have hiv:∀ a:Nat,∃ b:K,0 < a→a < p→(a:K) * b=1:=fun a=>by
  by_cases h:0 < a∧a < p
  ·obtain ⟨b,hb⟩:=F.1 _ (hc a h.1 h.2)
   exact ⟨b,fun _ _=>hb⟩
  exact ⟨0,fun h1 h2=>absurd ⟨h1,h2⟩ h⟩
 obtain ⟨iv,hiv⟩:=Classical.axiomOfChoice hiv
 let g:List Nat→K:=fun w=>if cntW (mxl l w) w=p then 0 else iv (cntW (mxl l w) w) * f w
 have hg:∀ w,g (rot1 w)=g w:=fun w=>by simp only [g,mxl_rot,cntW_rot,hf]
 let f1:List Nat→K:=fun w=>if cntW (mxl l w) w=p then f w else 0
 have hsplit:∀ w,w.length=p→(∀ x∈w,x∈l)→f w=f1 w + (g w * plcW (mxl l w) w + (-1) * (g (rot1 w) * plcW (mxl l (rot1 w)) (rot1 w))):=fun w hw hwl=>by
  rw [hg,mxl_rot,plcW_rot hp hw hp0]
  simp only [f1,g]
  have hne:∃ x∈l,x∈w:=by
   cases w with
   | nil=>simp at hw; omega
   | cons y w=>exact ⟨y,hwl y (by simp),by simp⟩
  have h1:=cntW_pos.2 (mxl_mem hne)
  have h2:=cntW_le (mxl l w) w
  by_cases e:cntW (mxl l w) w=p
  ·rw [if_pos e,if_pos e]; grind
  rw [if_neg e,if_neg e]
  have:=hiv (cntW (mxl l w) w) h1 (by omega)
  grind
 obtain ⟨k,rfl⟩:∃ k,p=k + 1:=⟨p - 1,by omega⟩
 rw [sW_congr hsplit,sW_add,sW_add,sW_mul]
 have h3:=sW_rot (l:=l) (k:=k) fun w=>g w * plcW (mxl l w) w
 rw [h3]
 have h4:sW l (k + 1) f1=sl l fun x=>f (List.replicate (k + 1) x):=by
  rw [sW]
  refine sl_congr fun x hx=>?_
  have e:∀ w:List Nat,w.length=k→(∀ y∈w,y∈l)→f1 (x :: w)=if cntW x w=k then f (x :: w) else 0:=fun w hw hwl=>by
   simp only [f1]
   have hne:∃ y∈l,y∈x :: w:=⟨x,hx,by simp⟩
   have h1:=mxl_mem hne
   have h2:=cntW_le (mxl l (x :: w)) (x :: w)
   by_cases e:cntW x w=k
   ·have hw2:=cntW_full (e.trans hw.symm)
    have:mxl l (x :: w)=x:=by
     rcases List.mem_cons.1 h1 with h | h
     ·exact h
     exact (List.eq_replicate_iff.1 hw2).2 _ h
    rw [if_pos e,this,if_pos (by rw [cntW_cons,if_pos rfl,e])]
   rw [if_neg e]
   rw [if_neg fun h=>?_]
   have h5:=cntW_full (x:=mxl l (x :: w)) (w:=x :: w) (by rw [h,List.length_cons,hw])
   rw [List.length_cons,List.replicate_succ] at h5
   injection h5 with h6 h7
   rw [← h6] at h7
   rw [h7,cntW_rep] at e
   omega
  rw [sW_congr e,sW_rep hl hx k fun w=>f (x :: w)]
  rfl
 rw [h4]; grind
def Lin (A:(Nat→K)→Nat→K):Prop:=(∀ u v,A (fun j=>u j + v j)=fun j=>A u j + A v j)∧∀ k u,A (fun j=>k * u j)=fun j=>k * A u j
def itA (A:(Nat→K)→Nat→K):Nat→(Nat→K)→Nat→K
 | 0,u=>u
 | k + 1,u=>A (itA A k u)
theorem Lin.zero {A:(Nat→K)→Nat→K} (h:Lin A):A (fun _=>0)=fun _=>0:=by
 have:=h.2 0 fun _=>0
 have e:(fun _:Nat=>(0:K) * 0)=fun _=>0:=by funext j; grind
 rw [e] at this
 rw [this]; funext j; grind
theorem Lin.sm {A:(Nat→K)→Nat→K} (h:Lin A) (c:Nat→K) (y:Nat→Nat→K):∀ n,A (fun j=>sm (fun i=>c i * y i j) n)=fun j=>Go.Proofs.YtjlmpmidchddjaaDoor.sm (fun i=>c i * A (y i) j) n
 | 0=>h.zero
 | n + 1=>by
  have e:(fun j=>Go.Proofs.YtjlmpmidchddjaaDoor.sm (fun i=>c i * y i j) (n + 1))=fun j=>(fun j=>Go.Proofs.YtjlmpmidchddjaaDoor.sm (fun i=>c i * y i j) n) j + (fun j=>c n * y n j) j:=rfl
  rw [e,h.1,h.2,Lin.sm h c y n]
  rfl
def prj (A:(Nat→K)→Nat→K) (p:Nat) (v:K) (u:Nat→K) (j:Nat):K:=u j - sm (fun k=>v ^ (p - 1 - k) * itA A k u j) p
theorem prj_eig {A:(Nat→K)→Nat→K} (h:Lin A) {p:Nat} (hp:0 < p) {v:K} (hv:v ^ p=v) {u:Nat→K} (hu:itA A p u=A u) (j:Nat):A (prj A p v u) j=v * prj A p v u j:=by
 have e:prj A p v u=fun j=>u j + (-1) * (fun j=>sm (fun k=>v ^ (p - 1 - k) * itA A k u j) p) j:=by funext j; unfold prj; grind
 rw [e,h.1,h.2,h.sm]
 show A u j + -1 * sm (fun k=>v ^ (p - 1 - k) * A (itA A k u) j) p=v * (u j + -1 * sm (fun k=>v ^ (p - 1 - k) * itA A k u j) p)
 have tel:∀ q,q≤p→sm (fun k=>v ^ (p - 1 - k) * A (itA A k u) j) q - v * sm (fun k=>v ^ (p - 1 - k) * itA A k u j) q=v ^ (p - q) * itA A q u j - v ^ p * u j:=by
  intro q
  induction q with
  | zero=>intro _; simp only [sm,itA,Nat.sub_zero]; grind
  | succ q ih =>
   intro hq
   have h1:=ih (by omega)
   simp only [sm]
   have h2:v ^ (p - q)=v ^ (p - 1 - q) * v:=by rw [show p - q=(p - 1 - q) + 1 by omega,Semiring.pow_succ]
   have h3:p - (q + 1)=p - 1 - q:=by omega
   rw [h3]
   show _=v ^ (p - 1 - q) * A (itA A q u) j - _
   rw [h2] at h1
   grind
 have h1:=tel p (Nat.le_refl _)
 rw [Nat.sub_self,Semiring.pow_zero,hu,hv] at h1
 grind
def PwS (K:Type) [CommRing K] (p:Nat):Prop:=∀ j,j≤p - 1→sm (fun v=>((v:Nat):K) ^ j) p=if j=p - 1 then -1 else 0
theorem prj_sum {A:(Nat→K)→Nat→K} {p:Nat} (hp:2≤p) (hp0:(p:K)=0) (hs:PwS K p) (u:Nat→K) (j:Nat):sm (fun v=>prj A p ((v:Nat):K) u j) p=u j:=by
 unfold prj
 rw [sm_sub,sm_const,hp0,sm_comm]
 have e:∀ k,k < p→sm (fun v=>((v:Nat):K) ^ (p - 1 - k) * itA A k u j) p=(if k=0 then -1 else 0) * itA A k u j:=fun k hk=>by
  rw [sm_mulr,hs _ (by omega)]
  by_cases h:k=0
  ·rw [if_pos h,if_pos (by omega)]
  rw [if_neg h,if_neg (by omega)]
 rw [sm_congr e,sm_one (i:=0) (by omega) fun k hk hne=>by show (if k=0 then (-1:K) else 0) * itA A k u j=0; rw [if_neg hne]; grind]
 show 0 * u j - (if 0=0 then (-1:K) else 0) * u j=u j
 rw [if_pos rfl]; grind
end
end Go.Proofs.YtjlmpmidchddjaaDoor
