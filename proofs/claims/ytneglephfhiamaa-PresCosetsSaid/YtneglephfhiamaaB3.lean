/-
  Texts of this proof, one behind the other: what each says stands at its head. Conditions: none.
-/
import Derived.Test.YtneglephfhiamaaB2

set_option linter.all false
namespace Go.Pv
open Go.RowKit
theorem Rel.congr {C : Ctx} {m : Map} {s s2 : St} {tmps : Array Value} {w : World} (h : Rel C m s tmps w) (h1 : ∀ t, s2.get t = s.get t) (h2 : s2.H = s.H) (h3 : s2.n = s.n) : Rel C m s2 tmps w := by
  refine ⟨by rw [h2]; exact h.laid, h.below, h.base, by rw [h3]; exact h.size, ?_, ?_, ?_, fun t => ?_, by rw [h2]; exact h.mp⟩
  · rw [h2]; exact h.inj
  · rw [h2]; exact h.blk
  · rw [h2]; exact h.fro
  · rw [h1, h2]; exact h.slot t
section
variable {P : Program} {ops : Array Oper}
structure Out where
  av : AV
  H : Heap
def sD (ops : Array Oper) (out : Nat → Out) (s : St) (D : Nat → Bool) : Nat → St
  | 0 => s
  | k + 1 => if D k then ({ sD ops out s D k with H := if isW (opAt ops k).op then (out k).H else (sD ops out s D k).H } : St).put (opAt ops k).dst (out k).av else sD ops out s D k
theorem get_put (s : St) (d : Option Nat) (x : AV) (t : Nat) : (s.put d x).get t = if d = some t then x else s.get t := by
  cases d with
  | none => simp [St.put]
  | some d =>
    by_cases h : d = t
    · subst h; simp [St.put, St.get, lk]
    · simp [St.put, St.get, lk, h, show (d == t) = false by simpa using h]
theorem sD_n (out : Nat → Out) (s : St) (D : Nat → Bool) : ∀ k, (sD ops out s D k).n = s.n
  | 0 => rfl
  | k + 1 => by
    simp only [sD]
    split
    · rw [St.put_n]; exact sD_n out s D k
    · exact sD_n out s D k
theorem sD_get (out : Nat → Out) (s : St) (D : Nat → Bool) (k t : Nat) : (sD ops out s D (k + 1)).get t = if D k = true ∧ (opAt ops k).dst = some t then (out k).av else (sD ops out s D k).get t := by
  simp only [sD]
  by_cases h : D k = true
  · rw [if_pos h, get_put]
    by_cases hd : (opAt ops k).dst = some t
    · have hr : D k = true ∧ (opAt ops k).dst = some t := ⟨h, hd⟩
      rw [if_pos hd, if_pos hr]
    · have hr : ¬ (D k = true ∧ (opAt ops k).dst = some t) := fun hh => hd hh.2
      rw [if_neg hd, if_neg hr]; rfl
  · have hr : ¬ (D k = true ∧ (opAt ops k).dst = some t) := fun hh => h hh.1
    rw [if_neg h, if_neg hr]
theorem sD_H (out : Nat → Out) (s : St) (D : Nat → Bool) (k : Nat) : (sD ops out s D (k + 1)).H = if D k = true ∧ isW (opAt ops k).op = true then (out k).H else (sD ops out s D k).H := by
  simp only [sD]
  by_cases h : D k = true
  · rw [if_pos h, St.put_H]
    by_cases hd : isW (opAt ops k).op = true
    · have hr : D k = true ∧ isW (opAt ops k).op = true := ⟨h, hd⟩
      rw [if_pos hr]; simp only [hd, if_true]
    · have hr : ¬ (D k = true ∧ isW (opAt ops k).op = true) := fun hh => hd hh.2
      rw [if_neg hr]; simp only [hd, Bool.false_eq_true, if_false]
  · have hr : ¬ (D k = true ∧ isW (opAt ops k).op = true) := fun hh => h hh.1
    rw [if_neg h, if_neg hr]
theorem sD_get_stay (out : Nat → Out) (s : St) (D : Nat → Bool) (t : Nat) : ∀ k n, k ≤ n → (∀ i, k ≤ i → i < n → D i = true → (opAt ops i).dst ≠ some t) → (sD ops out s D n).get t = (sD ops out s D k).get t := by
  intro k n hkn h
  induction n with
  | zero => obtain rfl : k = 0 := by omega
            rfl
  | succ n ih =>
    by_cases hk : k = n + 1
    · rw [hk]
    · rw [sD_get, if_neg (fun hh => h n (by omega) (by omega) hh.1 hh.2)]
      exact ih (by omega) fun i h1 h2 => h i h1 (by omega)
theorem sD_H_stay (out : Nat → Out) (s : St) (D : Nat → Bool) : ∀ k n, k ≤ n → (∀ i, k ≤ i → i < n → D i = true → isW (opAt ops i).op = false) → (sD ops out s D n).H = (sD ops out s D k).H := by
  intro k n hkn h
  induction n with
  | zero => obtain rfl : k = 0 := by omega
            rfl
  | succ n ih =>
    by_cases hk : k = n + 1
    · rw [hk]
    · rw [sD_H, if_neg (fun hh => by have := h n (by omega) (by omega) hh.1; rw [this] at hh; simp at hh)]
      exact ih (by omega) fun i h1 h2 => h i h1 (by omega)
theorem sD_get_same (out : Nat → Out) (s : St) (D D' : Nat → Bool) (t : Nat) : ∀ k, (∀ i, i < k → (opAt ops i).dst = some t → D i = D' i) → (sD ops out s D k).get t = (sD ops out s D' k).get t := by
  intro k h
  induction k with
  | zero => rfl
  | succ k ih =>
    rw [sD_get, sD_get, ih fun i hi => h i (by omega)]
    by_cases hd : (opAt ops k).dst = some t
    · rw [h k (by omega) hd]
    · rw [if_neg (fun hh => hd hh.2), if_neg (fun hh => hd hh.2)]
theorem sD_H_same (out : Nat → Out) (s : St) (D D' : Nat → Bool) : ∀ k, (∀ i, i < k → isW (opAt ops i).op = true → D i = D' i) → (sD ops out s D k).H = (sD ops out s D' k).H := by
  intro k h
  induction k with
  | zero => rfl
  | succ k ih =>
    rw [sD_H, sD_H, ih fun i hi => h i (by omega)]
    by_cases hd : isW (opAt ops k).op = true
    · rw [h k (by omega) hd]
    · rw [if_neg (fun hh => hd hh.2), if_neg (fun hh => hd hh.2)]
structure Fact (P : Program) (ops : Array Oper) (out : Nat → Out) (s : St) (j : Nat) (o : Oper) : Prop where
  dst : ∀ t, o.dst = some t → t < s.n
  how : (guardA ops (sD ops out s (fun _ => true) j) o = some false ∧ (out j).av = .p (.tup []) ∧ isW o.op = false) ∨
    (guardA ops (sD ops out s (fun _ => true) j) o = some true ∧ Loc1 P o (sD ops out s (fun _ => true) j) (out j).av (out j).H)
theorem Run1.facts : ∀ (l : List Oper) (k : Nat) (pre : Nat → Out) (s s1 s' : St), (∀ i, l[i]? = ops[k + i]?) → k + l.length = ops.size → (∀ t, s1.get t = (sD ops pre s (fun _ => true) k).get t) → s1.H = (sD ops pre s (fun _ => true) k).H → s1.n = s.n →
    (∀ o ∈ l, o.guard ≠ none → isW o.op = false) →
    Run1 P true ops l s1 s' → ∃ out : Nat → Out, (∀ i, i < k → out i = pre i) ∧ (∀ i o, k ≤ i → ops[i]? = some o → Fact P ops out s i o) ∧ (∀ t, s'.get t = (sD ops out s (fun _ => true) ops.size).get t) ∧ s'.H = (sD ops out s (fun _ => true) ops.size).H ∧ s'.n = s.n
  | [], k, pre, s, s1, s', hl, hk, hg, hH, hn, _, hr => by
    cases hr
    simp at hk
    subst hk
    refine ⟨pre, fun _ _ => rfl, fun i o hi ho => ?_, hg, hH, hn⟩
    have := (Array.getElem?_eq_some_iff.1 ho).1
    omega
  | o :: r, k, pre, s, s1, s', hl, hk, hg, hH, hn, hgw, hr => by
    have ho : ops[k]? = some o := by have := hl 0; simpa using this.symm
    have hod : opAt ops k = o := opAt_of ho
    have sDpre : ∀ (x : Out) (j : Nat), j ≤ k → sD ops (fun i => if i = k then x else pre i) s (fun _ => true) j = sD ops pre s (fun _ => true) j := by
      intro x j hj
      induction j with
      | zero => rfl
      | succ j ih =>
        simp only [sD]
        rw [ih (by omega), if_neg (by omega : ¬ j = k)]
    have hgs : ∀ b, guardA ops s1 o = some b → guardA ops (sD ops pre s (fun _ => true) k) o = some b := by
      intro b h
      unfold guardA at h ⊢
      simp only [hg] at h
      exact h
    cases hr with
    | cons h hr =>
      have next : ∀ (x : Out) (sn : St), (∀ t, sn.get t = if o.dst = some t then x.av else s1.get t) → (sn.H = if isW o.op = true then x.H else s1.H) → sn.n = s1.n → Run1 P true ops r sn s' →
          Fact P ops (fun i => if i = k then x else pre i) s k o →
          ∃ out : Nat → Out, (∀ i, i < k → out i = pre i) ∧ (∀ i o, k ≤ i → ops[i]? = some o → Fact P ops out s i o) ∧ (∀ t, s'.get t = (sD ops out s (fun _ => true) ops.size).get t) ∧ s'.H = (sD ops out s (fun _ => true) ops.size).H ∧ s'.n = s.n := by
        intro x sn h1 h2 h3 hrn hf
        obtain ⟨out, g1, g2, g3⟩ := Run1.facts r (k + 1) (fun i => if i = k then x else pre i) s sn s' (fun i => by have := hl (i + 1); simp only [List.getElem?_cons_succ] at this; rw [this]; congr 1; omega) (by simp at hk; omega)
          (fun t => by rw [h1, sD_get, hod, sDpre x k (Nat.le_refl _), hg]; simp) (by rw [h2, sD_H, hod, sDpre x k (Nat.le_refl _), hH]; simp) (by rw [h3, hn]) (fun o ho => hgw o (by simp [ho])) hrn
        refine ⟨out, fun i hi => ?_, fun i o' hi ho' => ?_, g3⟩
        · rw [g1 i (by omega), if_neg (by omega)]
        · by_cases hik : i = k
          · subst hik
            rw [ho] at ho'; cases ho'
            have e1 : ∀ j, j ≤ i → sD ops out s (fun _ => true) j = sD ops (fun i' => if i' = i then x else pre i') s (fun _ => true) j := by
              intro j hj
              induction j with
              | zero => rfl
              | succ j ih => simp only [sD]; rw [ih (by omega), g1 j (by omega)]
            have e2 : out i = (fun i' => if i' = i then x else pre i') i := g1 i (by omega)
            refine ⟨hf.dst, ?_⟩
            have := hf.how
            rw [e1 i (Nat.le_refl _), e2]
            exact this
          · exact g2 i o' (by omega) ho'
      cases h with
      | skip hgd hd =>
        have hgn : o.guard ≠ none := by
          intro e
          unfold guardA at hgd
          rw [e] at hgd
          simp at hgd
        have hw := hgw o (by simp) hgn
        refine next ⟨.p (.tup []), s1.H⟩ _ (fun t => get_put _ _ _ _) (by rw [St.put_H]; simp) (St.put_n _ _ _) hr ⟨fun t ht => by rw [← hn]; exact hd t ht, .inl ⟨?_, by simp, hw⟩⟩
        rw [sDpre _ k (Nat.le_refl _)]
        exact hgs false hgd
      | op av H' hgd hd hdo hloc =>
        have hloc := hloc rfl
        have hag : ∀ (s2 : St), (∀ t, s2.get t = (sD ops pre s (fun _ => true) k).get t) → ∀ x, s2.ev x = s1.ev x := by
          intro s2 h2 x
          cases x <;> simp only [St.ev]
          rw [h2, hg]
        refine next ⟨av, H'⟩ (({ s1 with H := H' } : St).put o.dst av) (fun t => by rw [get_put]; rfl) (by
            rw [St.put_H]
            by_cases hw : isW o.op = true
            · rw [if_pos hw]
            · rw [if_neg hw]; exact hloc.calm (by simpa using hw)) (St.put_n _ _ _) hr ⟨fun t ht => by rw [← hn]; exact hd t ht, .inr ⟨?_, ?_⟩⟩
        · rw [sDpre _ k (Nat.le_refl _)]; exact hgs true hgd
        · rw [sDpre _ k (Nat.le_refl _)]
          simp only [if_true]
          have hev : ∀ x, (sD ops pre s (fun _ => true) k).ev x = s1.ev x := hag _ fun _ => rfl
          have hnn : (sD ops pre s (fun _ => true) k).n = s1.n := by rw [sD_n, hn]
          refine ⟨fun s2 h1 h2 h3 => hloc.here s2 (h1.trans hnn) (fun x hx => (h2 x hx).trans (hev x)) (h3.trans hH.symm), fun hf => ?_, fun hw => by rw [← hH]; exact hloc.calm hw⟩
          obtain ⟨e1, e2⟩ := hloc.free hf
          exact ⟨by rw [← hH]; exact e1, fun s2 h1 h2 => e2 s2 (h1.trans hnn) (fun x hx => (h2 x hx).trans (hev x))⟩
theorem isW_isT {o : Op} (h : isW o = true) : isT o = true := by
  unfold isW at h
  split at h <;> first | rfl | cases h
theorem drawOK_spec (h : drawOK ops = true) : (∀ j o, ops[j]? = some o → ∀ e ∈ o.after.toList, Region.binds .any e = true → e.on < j) ∧
    ∀ i j oi oj, i < j → ops[i]? = some oi → ops[j]? = some oj → apartB ops oi oj = false → ((anc ops).getD j 0).testBit i = true := by
  unfold drawOK at h
  rw [List.all_eq_true] at h
  constructor
  · intro j o ho e he hb
    have hj := (Array.getElem?_eq_some_iff.1 ho).1
    have := h j (by simpa using hj)
    rw [Bool.and_eq_true] at this
    have h1 := (List.all_eq_true.1 this.1) e (by rw [opAt_of ho]; exact he)
    rw [hb] at h1
    simpa using h1
  · intro i j oi oj hij hi hj ha
    have hj' := (Array.getElem?_eq_some_iff.1 hj).1
    have := h j (by simpa using hj')
    rw [Bool.and_eq_true] at this
    have h1 := (List.all_eq_true.1 this.2) i (by simpa using hij)
    rw [opAt_of hi, opAt_of hj, ha, Bool.false_or] at h1
    exact h1
theorem draw_sound {Q : Exit → Act → World → Prop} {C : Ctx} {ds : List Deferred} {s s' : St} (hok : drawOK ops = true) (hgw : ∀ o ∈ ops.toList, o.guard ≠ none → isW o.op = false) (hrun : Run1 P true ops ops.toList s s') {m : Map} {a : Act} {w : World} (R : Rel C m s a.tmps w) (hd : a.defers = ds)
    (hQ : ∀ m' (a' : Act) w', Rel C m' s' a'.tmps w' → a'.defers = ds → Q .normal a' w') : anyR P .any ops Q ops.size (Array.replicate ops.size false) a w := by
  obtain ⟨hedge, hconf⟩ := drawOK_spec hok
  obtain ⟨out, _, hfact, hget', hH', hn'⟩ := Run1.facts (ops := ops) ops.toList 0 (fun _ => ⟨.dead, []⟩) s s s' (fun i => by simp) (by simp) (fun _ => rfl) rfl rfl hgw hrun
  have hfact : ∀ i o, ops[i]? = some o → Fact P ops out s i o := fun i o => hfact i o (Nat.zero_le _)
  have key : ∀ (fuel : Nat) (listed : Array Bool) (m : Map) (a : Act) (w : World), listed.size = ops.size → (List.range ops.size).countP (fun i => !listed.getD i true) = fuel →
      (∀ j o, listed.getD j false = true → ops[j]? = some o → ∀ e ∈ o.after.toList, Region.binds .any e = true → listed.getD e.on false = true) →
      Rel C m (sD ops out s (fun i => listed.getD i false) ops.size) a.tmps w → a.defers = ds → anyR P .any ops Q fuel listed a w := by
    intro fuel
    induction fuel with
    | zero =>
      intro listed m a w hsz hcnt hcl R hd
      have hall : ∀ i, i < ops.size → listed.getD i true = true := by
        intro i hi
        have := List.countP_eq_zero.1 hcnt i (by simpa using hi)
        simpa using this
      refine ⟨?_, hQ m a w (R.congr (fun t => ?_) ?_ ?_) hd⟩
      · unfold Region.ready
        rw [List.filter_eq_nil_iff]
        intro i hi
        have := hall i (by simpa using hi)
        simp [this]
      · rw [hget']
        refine (sD_get_same out s _ _ t _ fun i hi _ => ?_).symm
        have := hall i hi
        simp [Array.getD_eq_getD_getElem?, Array.getElem?_eq_getElem (show i < listed.size by omega)] at this ⊢
        exact this
      · rw [hH']
        refine (sD_H_same out s _ _ _ fun i hi _ => ?_).symm
        have := hall i hi
        simp [Array.getD_eq_getD_getElem?, Array.getElem?_eq_getElem (show i < listed.size by omega)] at this ⊢
        exact this
      · rw [sD_n, hn']
    | succ fuel ih =>
      intro listed m a w hsz hcnt hcl R hd
      refine ⟨fun hnil => ?_, fun j hj => ?_⟩
      · 
        exfalso
        have hex : ∃ i, i < ops.size ∧ listed.getD i true = false := by
          have : 0 < (List.range ops.size).countP (fun i => !listed.getD i true) := by omega
          obtain ⟨i, hi, h⟩ := List.countP_pos_iff.1 this
          exact ⟨i, by simpa using hi, by simpa using h⟩
        have hmin : ∃ i, i < ops.size ∧ listed.getD i true = false ∧ ∀ k, k < i → listed.getD k true = true := by
          obtain ⟨i, hi, h⟩ := hex
          induction i using Nat.strongRecOn with
          | _ i ihh =>
            by_cases hall : ∀ k, k < i → listed.getD k true = true
            · exact ⟨i, hi, h, hall⟩
            · simp only [Classical.not_forall] at hall
              obtain ⟨k, hk, hkn⟩ := hall
              exact ihh k hk (by omega) (by simpa using hkn)
        obtain ⟨i, hi, hli, hbelow⟩ := hmin
        have hmem : i ∈ Region.ready .any ops listed := by
          unfold Region.ready
          rw [List.mem_filter]
          refine ⟨by simpa using hi, ?_⟩
          rw [hli, Array.getElem?_eq_getElem hi]
          simp only [Bool.not_false, Bool.true_and, Option.map_some, Option.getD_some]
          rw [Array.all_eq_true_iff_forall_mem]
          intro e he
          by_cases hb : Region.binds .any e = true
          · have hlt := hedge i ops[i] (Array.getElem?_eq_getElem hi) e (by simpa using he) hb
            have := hbelow e.on hlt
            have hlt' : e.on < listed.size := by omega
            simp [Array.getD_eq_getD_getElem?, Array.getElem?_eq_getElem hlt'] at this ⊢
            simp [this]
          · simp [hb]
        rw [hnil] at hmem
        simp at hmem
      · 
        unfold Region.ready at hj
        rw [List.mem_filter] at hj
        obtain ⟨hjlt, hj⟩ := hj
        have hjlt : j < ops.size := by simpa using hjlt
        have hoj : ops[j]? = some ops[j] := Array.getElem?_eq_getElem hjlt
        generalize ops[j] = o at hoj
        rw [hoj] at hj
        simp only [Option.map_some, Option.getD_some, Bool.and_eq_true, Bool.not_eq_eq_eq_not, Bool.not_true] at hj
        obtain ⟨hnl, hal⟩ := hj
        have hjls : j < listed.size := by omega
        have hnl' : listed.getD j false = false := by
          simp [Array.getD_eq_getD_getElem?, Array.getElem?_eq_getElem hjls] at hnl ⊢
          exact hnl
        have hpre : ∀ e ∈ o.after.toList, Region.binds .any e = true → listed.getD e.on false = true := by
          intro e he hb
          have := (Array.all_eq_true_iff_forall_mem.1 hal) e (by simpa using he)
          rw [hb] at this
          simpa using this
        have hanc : ∀ i, ((anc ops).getD j 0).testBit i = true → listed.getD i false = true :=
          anc_in (D := fun i => listed.getD i false = true) hcl j j o (Nat.le_refl _) hoj hpre
        have hanc' : ∀ i, listed.getD i false = true → ∀ oi, ops[i]? = some oi → ∀ k, ((anc ops).getD i 0).testBit k = true → listed.getD k false = true :=
          fun i hi oi hoi => anc_in (D := fun i => listed.getD i false = true) hcl i i oi (Nat.le_refl _) hoi (hcl i oi hi hoi)
        have hod : opAt ops j = o := opAt_of hoj
        have low : ∀ i, i < j → apartB ops (opAt ops i) o = false → listed.getD i false = true := by
          intro i hi ha
          have hoi : ops[i]? = some ops[i] := Array.getElem?_eq_getElem (by omega)
          refine hanc i (hconf i j ops[i] o hi hoi hoj ?_)
          rwa [opAt_of hoi] at ha
        have high : ∀ i, j < i → i < ops.size → listed.getD i false = true → apartB ops o (opAt ops i) = true := by
          intro i hi hlt hli
          have hoi : ops[i]? = some ops[i] := Array.getElem?_eq_getElem hlt
          have e : opAt ops i = ops[i] := opAt_of hoi
          rw [e]
          by_cases ha : apartB ops o ops[i] = true
          · exact ha
          · have := hanc' i hli ops[i] hoi j (hconf j i o ops[i] hi hoj hoi (by simpa using ha))
            rw [this] at hnl'; cases hnl'
        have agree : ∀ t, t ∈ o.looksAt ops → (sD ops out s (fun i => listed.getD i false) ops.size).get t = (sD ops out s (fun _ => true) j).get t := by
          intro t ht
          rw [sD_get_stay out s _ t j ops.size (by omega) (fun i h1 h2 h3 h4 => ?_)]
          · refine sD_get_same out s _ _ t j fun i hi hdi => ?_
            rw [low i hi ?_]
            rw [Bool.eq_false_iff]
            intro hap
            unfold apartB at hap
            rw [Bool.and_eq_true, Bool.and_eq_true] at hap
            exact (Oper.apart_spec hap.1.1).1 t hdi ht
          · by_cases hij : i = j
            · subst hij; rw [hnl'] at h3; cases h3
            · have hap := high i (by omega) h2 h3
              unfold apartB at hap
              rw [Bool.and_eq_true, Bool.and_eq_true] at hap
              exact (Oper.apart_spec hap.1.1).2.2 t h4 ht
        have agreeH : isT o.op = true → (sD ops out s (fun i => listed.getD i false) ops.size).H = (sD ops out s (fun _ => true) j).H := by
          intro hT
          rw [sD_H_stay out s _ j ops.size (by omega) (fun i h1 h2 h3 => ?_)]
          · refine sD_H_same out s _ _ j fun i hi hwi => ?_
            rw [low i hi ?_]
            rw [Bool.eq_false_iff]
            intro hap
            unfold apartB at hap
            simp [hwi, hT] at hap
          · by_cases hij : i = j
            · subst hij; rw [hnl'] at h3; cases h3
            · have hap := high i (by omega) h2 h3
              unfold apartB at hap
              simp only [hT, Bool.true_and, Bool.and_eq_true, Bool.not_eq_eq_eq_not, Bool.not_true] at hap
              exact hap.2
        have hlist : ∀ i, (listed.setIfInBounds j true).getD i false = if i = j then true else listed.getD i false := by
          intro i
          simp only [Array.getD_eq_getD_getElem?]
          by_cases hij : i = j
          · subst hij; rw [Array.getElem?_setIfInBounds_self_of_lt hjls, if_pos rfl]; rfl
          · rw [Array.getElem?_setIfInBounds_ne (Ne.symm hij), if_neg hij]
        have insertGet : ∀ t, (sD ops out s (fun i => (listed.setIfInBounds j true).getD i false) ops.size).get t = if o.dst = some t then (out j).av else (sD ops out s (fun i => listed.getD i false) ops.size).get t := by
          intro t
          have base : ∀ k, k ≤ j → (sD ops out s (fun i => (listed.setIfInBounds j true).getD i false) k).get t = (sD ops out s (fun i => listed.getD i false) k).get t := fun k hk =>
            sD_get_same out s _ _ t k fun i hi _ => by rw [hlist, if_neg (by omega)]
          have step : ∀ n, j + 1 ≤ n → n ≤ ops.size → (sD ops out s (fun i => (listed.setIfInBounds j true).getD i false) n).get t = if o.dst = some t then (out j).av else (sD ops out s (fun i => listed.getD i false) n).get t := by
            intro n hn hns
            induction n with
            | zero => omega
            | succ n ihn =>
              by_cases hnj : n = j
              · subst hnj
                rw [sD_get, sD_get, hod, base n (Nat.le_refl _), hlist, if_pos rfl, hnl']
                by_cases hdt : o.dst = some t
                · simp [hdt]
                · simp [hdt]
              · rw [sD_get, sD_get, ihn (by omega) (by omega), hlist, if_neg hnj]
                by_cases hln : listed.getD n false = true ∧ (opAt ops n).dst = some t
                · rw [if_pos hln, if_pos hln]
                  have hap := high n (by omega) (by omega) hln.1
                  unfold apartB at hap
                  rw [Bool.and_eq_true, Bool.and_eq_true] at hap
                  by_cases hdt : o.dst = some t
                  · exact absurd hln.2 ((Oper.apart_spec hap.1.1).2.1 t hdt)
                  · rw [if_neg hdt]
                · rw [if_neg hln, if_neg hln]
          exact step ops.size (by omega) (Nat.le_refl _)
        have insertH : (sD ops out s (fun i => (listed.setIfInBounds j true).getD i false) ops.size).H = if isW o.op = true then (out j).H else (sD ops out s (fun i => listed.getD i false) ops.size).H := by
          have base : ∀ k, k ≤ j → (sD ops out s (fun i => (listed.setIfInBounds j true).getD i false) k).H = (sD ops out s (fun i => listed.getD i false) k).H := fun k hk =>
            sD_H_same out s _ _ k fun i hi _ => by rw [hlist, if_neg (by omega)]
          have step : ∀ n, j + 1 ≤ n → n ≤ ops.size → (sD ops out s (fun i => (listed.setIfInBounds j true).getD i false) n).H = if isW o.op = true then (out j).H else (sD ops out s (fun i => listed.getD i false) n).H := by
            intro n hn hns
            induction n with
            | zero => omega
            | succ n ihn =>
              by_cases hnj : n = j
              · subst hnj
                rw [sD_H, sD_H, hod, base n (Nat.le_refl _), hlist, if_pos rfl, hnl']
                by_cases hdt : isW o.op = true
                · simp [hdt]
                · simp [hdt]
              · rw [sD_H, sD_H, ihn (by omega) (by omega), hlist, if_neg hnj]
                by_cases hln : listed.getD n false = true ∧ isW (opAt ops n).op = true
                · rw [if_pos hln, if_pos hln]
                  have hap := high n (by omega) (by omega) hln.1
                  unfold apartB at hap
                  by_cases hdt : isW o.op = true
                  · simp [hdt, isW_isT hln.2] at hap
                  · rw [if_neg hdt]
                · rw [if_neg hln, if_neg hln]
          exact step ops.size (by omega) (Nat.le_refl _)
        have hcnt' : (List.range ops.size).countP (fun i => !(listed.setIfInBounds j true).getD i true) = fuel := by
          have hsplit : ∀ (l : List Nat), l.Nodup → j ∈ l → l.countP (fun i => !listed.getD i true) = l.countP (fun i => !(listed.setIfInBounds j true).getD i true) + 1 := by
            intro l
            induction l with
            | nil => intro _ h; simp at h
            | cons x r ihl =>
              intro hnd hmem
              have hx : ∀ i, i ≠ j → (listed.setIfInBounds j true).getD i true = listed.getD i true := by
                intro i hi
                simp only [Array.getD_eq_getD_getElem?]
                rw [Array.getElem?_setIfInBounds_ne (Ne.symm hi)]
              rw [List.nodup_cons] at hnd
              by_cases hxj : x = j
              · subst hxj
                have e1 : (listed.setIfInBounds x true).getD x true = true := by
                  simp only [Array.getD_eq_getD_getElem?]
                  rw [Array.getElem?_setIfInBounds_self_of_lt hjls]; rfl
                rw [List.countP_cons, List.countP_cons, hnl, e1]
                have : r.countP (fun i => !listed.getD i true) = r.countP (fun i => !(listed.setIfInBounds x true).getD i true) := by
                  apply List.countP_congr
                  intro i hi
                  rw [hx i (fun e => hnd.1 (e ▸ hi))]
                simp only [this, Bool.not_false, Bool.not_true, if_true, Bool.false_eq_true, if_false, Nat.add_zero]
              · rw [List.countP_cons, List.countP_cons, hx x hxj, ihl hnd.2 (by rcases List.mem_cons.1 hmem with h | h; exact absurd h.symm hxj; exact h)]
                omega
          have := hsplit (List.range ops.size) List.nodup_range (by simpa using hjlt)
          omega
        have hcl' : ∀ i oi, (listed.setIfInBounds j true).getD i false = true → ops[i]? = some oi → ∀ e ∈ oi.after.toList, Region.binds .any e = true → (listed.setIfInBounds j true).getD e.on false = true := by
          intro i oi hi hoi e he hb
          rw [hlist] at hi ⊢
          by_cases hij : i = j
          · subst hij
            rw [hoj] at hoi; cases hoi
            rw [hpre e he hb]; simp
          · rw [if_neg hij] at hi
            rw [hcl i oi hi hoi e he hb]; simp
        have next : ∀ (m' : Map) (a' : Act) (w' : World), (∃ s2 : St, Rel C m' s2 a'.tmps w' ∧ (∀ t, s2.get t = if o.dst = some t then (out j).av else (sD ops out s (fun i => listed.getD i false) ops.size).get t) ∧
              (s2.H = if isW o.op = true then (out j).H else (sD ops out s (fun i => listed.getD i false) ops.size).H) ∧ s2.n = s.n) → a'.defers = ds → anyR P .any ops Q fuel (listed.setIfInBounds j true) a' w' := by
          rintro m' a' w' ⟨s2, R2, e1, e2, e3⟩ hd'
          refine ih _ m' a' w' (by simpa using hsz) hcnt' hcl' (R2.congr (fun t => ?_) ?_ ?_) hd'
          · rw [insertGet, e1]
          · rw [insertH, e2]
          · rw [sD_n, e3]
        have hgd : ∀ b, guardA ops (sD ops out s (fun _ => true) j) o = some b → guardA ops (sD ops out s (fun i => listed.getD i false) ops.size) o = some b := by
          intro b h
          unfold guardA at h ⊢
          split at h
          · exact h
          · rename_i g want e
            split at h
            · rename_i d hdd
              have : (sD ops out s (fun i => listed.getD i false) ops.size).get d = (sD ops out s (fun _ => true) j).get d := agree d (by
                unfold Oper.looksAt
                rw [e]
                simp [hdd])
              rw [this]
              exact h
            · cases h
        have hsn : (sD ops out s (fun i => listed.getD i false) ops.size).n = s.n := sD_n _ _ _ _
        obtain ⟨fd, fh⟩ := hfact j o hoj
        unfold onR
        rw [hoj]
        simp only
        rcases fh with ⟨hg, hdead, hw⟩ | ⟨hg, hloc⟩
        · rw [guardA_wanted (P := P) R (hgd _ hg)]
          simp only [Bool.false_eq_true, if_false]
          refine next m _ w ⟨_, R.put (fun t ht => by rw [hsn]; exact fd t ht) (.p _ _ reads_un), fun t => ?_, ?_, ?_⟩ (by rw [put_defers]; exact hd)
          · rw [get_put, hdead]
          · rw [St.put_H, hw]; simp
          · rw [St.put_n, hsn]
        · rw [guardA_wanted (P := P) R (hgd _ hg)]
          simp only [if_true]
          left
          have hag : Agree o (sD ops out s (fun _ => true) j) (sD ops out s (fun i => listed.getD i false) ops.size) := by
            intro x hx
            cases x with
            | tmp t =>
              simp only [St.ev]
              refine agree t ?_
              unfold Oper.looksAt
              rw [List.mem_append]
              left
              rw [List.mem_filterMap]
              exact ⟨.tmp t, by simpa using hx, rfl⟩
            | _ => rfl
          have hn2 : (sD ops out s (fun i => listed.getD i false) ops.size).n = (sD ops out s (fun _ => true) j).n := by rw [sD_n, sD_n]
          by_cases hT : isT o.op = true
          · refine hloc.here _ hn2 hag (agreeH hT) C m a w _ Q R fun v m' w' R' hv => ?_
            refine next m' _ w' ⟨_, R'.put (fun t ht => by simp only; rw [hsn]; exact fd t ht) hv, fun t => ?_, ?_, ?_⟩ (by rw [put_defers]; exact hd)
            · rw [get_put]; rfl
            · rw [St.put_H]
              by_cases hw : isW o.op = true
              · rw [if_pos hw]
              · rw [if_neg hw, agreeH hT]; exact hloc.calm (by simpa using hw)
            · rw [St.put_n]; exact hsn
          · obtain ⟨e1, e2⟩ := hloc.free (by simpa using hT)
            refine e2 _ hn2 hag C m a w _ Q R fun v m' w' R' hv => ?_
            have hw : isW o.op = false := by
              rw [Bool.eq_false_iff]
              exact fun hw => hT (isW_isT hw)
            refine next m' _ w' ⟨_, R'.put (fun t ht => by simp only; rw [hsn]; exact fd t ht) hv, fun t => ?_, ?_, ?_⟩ (by rw [put_defers]; exact hd)
            · rw [get_put]
            · rw [St.put_H, hw]; simp
            · rw [St.put_n]; exact hsn
  refine key ops.size (Array.replicate ops.size false) m a w (by simp) ?_ ?_ ?_ hd
  · have : ∀ i ∈ List.range ops.size, (!(Array.replicate ops.size false).getD i true) = true := by
      intro i hi
      have hi : i < ops.size := by simpa using hi
      simp [Array.getD_eq_getD_getElem?, hi]
    rw [List.countP_eq_length.2 this]
    simp
  · intro j o hj
    exfalso
    simp only [Array.getD_eq_getD_getElem?, Array.getElem?_replicate] at hj
    split at hj <;> simp at hj
  · refine R.congr (fun t => ?_) ?_ (sD_n _ _ _ _)
    · refine sD_get_stay out s _ t 0 ops.size (Nat.zero_le _) fun i _ hi h => ?_
      simp only [Array.getD_eq_getD_getElem?, Array.getElem?_replicate] at h
      split at h <;> simp at h
    · refine sD_H_stay out s _ 0 ops.size (Nat.zero_le _) fun i _ hi h => ?_
      simp only [Array.getD_eq_getD_getElem?, Array.getElem?_replicate] at h
      split at h <;> simp at h
end
end Go.Pv
namespace Go.Pv
open Go.RowKit
section
variable {P : Program} {T : TypeId → Option TI}
theorem binA_H {op : BinOp} {t : TypeId} {H : Heap} {x y : AV} {r : OV} (h : binA T op t H x y = some r) : r.H = H ∧ ∀ H2, binA T op t H2 x y = some { r with H := H2 } := by
  unfold binA at h ⊢
  split at h <;> (try split at h) <;> simp only [Option.some.injEq, reduceCtorEq] at h <;> subst h <;> exact ⟨rfl, fun _ => rfl⟩
theorem indexA_H {ti : TI} {H : Heap} {x y : AV} {r : OV} (h : indexA ti H x y = some r) : r.H = H ∧ ∀ H2, indexA ti H2 x y = some { r with H := H2 } := by
  unfold indexA at h ⊢
  split at h
  · split at h
    · rename_i hk
      split at h <;> simp only [Option.some.injEq, reduceCtorEq] at h
      subst h
      refine ⟨rfl, fun H2 => ?_⟩
      simp [hk]
    · cases h
  · cases h
theorem nilA_H {H : Heap} {x : AV} {r : OV} (h : nilA H x = some r) : r.H = H ∧ ∀ H2, nilA H2 x = some { r with H := H2 } := by
  unfold nilA at h ⊢
  split at h <;> simp only [Option.some.injEq, reduceCtorEq] at h <;> subst h <;> exact ⟨rfl, fun _ => rfl⟩
theorem unA_H {op : UnOp} {H : Heap} {x : AV} {r : OV} (h : unA op H x = some r) : r.H = H ∧ ∀ H2, unA op H2 x = some { r with H := H2 } := by
  unfold unA at h ⊢
  split at h <;> (try split at h) <;> simp only [Option.some.injEq, reduceCtorEq] at h <;> subst h <;> exact ⟨rfl, fun _ => rfl⟩
theorem pickA_H {H : Heap} {a b x : AV} {r : OV} (h : pickA a b H x = some r) : r.H = H ∧ ∀ H2, pickA a b H2 x = some { r with H := H2 } := by
  unfold pickA at h ⊢
  split at h <;> simp only [Option.some.injEq, reduceCtorEq] at h <;> subst h <;> exact ⟨rfl, fun _ => rfl⟩
theorem convA_H {src dst : TypeId} {H : Heap} {x : AV} {r : OV} (h : convA T src dst H x = some r) : r.H = H ∧ ∀ H2, convA T src dst H2 x = some { r with H := H2 } := by
  unfold convA at h ⊢
  split at h <;> (try split at h) <;> simp only [Option.some.injEq, reduceCtorEq] at h <;> subst h <;> exact ⟨rfl, fun _ => by simp_all⟩
theorem fieldAddrA_H {ti : TI} {f : Nat} {H : Heap} {x : AV} {r : OV} (h : fieldAddrA ti f H x = some r) : r.H = H ∧ ∀ H2, fieldAddrA ti f H2 x = some { r with H := H2 } := by
  unfold fieldAddrA at h ⊢
  split at h <;> (try split at h) <;> (try split at h) <;> simp only [Option.some.injEq, reduceCtorEq] at h <;> subst h <;> exact ⟨rfl, fun _ => by simp_all⟩
theorem fieldA_H {ti : TI} {f : Nat} {H : Heap} {x : AV} {r : OV} (h : fieldA T ti f H x = some r) : r.H = H ∧ ∀ H2, fieldA T ti f H2 x = some { r with H := H2 } := by
  unfold fieldA at h ⊢
  split at h
  · split at h
    · split at h
      · rename_i tf htf
        cases hr : isRow tf.kind <;> rw [hr] at h <;> simp only [cond_true, cond_false, Option.some.injEq] at h <;> subst h <;> exact ⟨rfl, fun _ => by simp_all⟩
      · cases h
    · cases h
  · cases h
theorem indexAddrA_H {ti : TI} {H : Heap} {x y : AV} {r : OV} (h : indexAddrA T ti H x y = some r) : r.H = H ∧ ∀ H2, indexAddrA T ti H2 x y = some { r with H := H2 } := by
  unfold indexAddrA at h ⊢
  split at h <;> (try split at h) <;> (try split at h) <;> (try split at h) <;> simp only [Option.some.injEq, reduceCtorEq] at h <;> subst h <;> exact ⟨rfl, fun _ => by simp_all⟩
theorem sliceA_H {ti : TI} {H : Heap} {x : AV} {lo hi : Option AV} {r : OV} (h : sliceA T ti H x lo hi = some r) : r.H = H ∧ ∀ H2, sliceA T ti H2 x lo hi = some { r with H := H2 } := by
  unfold sliceA at h ⊢
  split at h <;> (try split at h) <;> (try split at h) <;> (try split at h) <;> simp only [Option.some.injEq, reduceCtorEq] at h <;> subst h <;> exact ⟨rfl, fun _ => by simp_all⟩
theorem extractA_H {i : Nat} {H : Heap} {x : AV} {r : OV} (h : extractA i H x = some r) : r.H = H ∧ ∀ H2, extractA i H2 x = some { r with H := H2 } := by
  unfold extractA at h ⊢
  split at h <;> simp only [Option.some.injEq, reduceCtorEq] at h <;> subst h <;> exact ⟨rfl, fun _ => rfl⟩
theorem lenA_H {ti : TI} {H : Heap} {x : AV} {r : OV} (h : lenA ti H x = some r) : r.H = H ∧ ∀ H2, lenA ti H2 x = some { r with H := H2 } := by
  unfold lenA at h ⊢
  split at h <;> (try split at h) <;> simp only [Option.some.injEq, reduceCtorEq] at h <;> subst h <;> exact ⟨rfl, fun _ => by simp_all⟩
theorem minmaxA_H {f : Int → Int → Int} {H : Heap} {l : List AV} {r : OV} (h : minmaxA f H l = some r) : r.H = H ∧ ∀ H2, minmaxA f H2 l = some { r with H := H2 } := by
  unfold minmaxA at h ⊢
  split at h <;> simp only [Option.some.injEq, reduceCtorEq] at h <;> subst h <;> exact ⟨rfl, fun _ => rfl⟩
theorem buildA_H {ti : TI} {H : Heap} {l : List (Nat × AV)} {r : OV} (h : buildA T ti H l = some r) : r.H = H ∧ ∀ H2, buildA T ti H2 l = some { r with H := H2 } := by
  unfold buildA at h ⊢
  split at h <;> (try split at h) <;> (try split at h) <;> simp only [Option.some.injEq, reduceCtorEq] at h <;> subst h <;> exact ⟨rfl, fun _ => by simp_all⟩
theorem buildSliceA_H {ti : TI} {n : Nat} {H : Heap} {l : List (Nat × AV)} {r : OV} (h : buildSliceA T ti H n l = some r) : r.H = H ∧ ∀ H2, buildSliceA T ti H2 n l = some { r with H := H2 } := by
  unfold buildSliceA at h ⊢
  split at h <;> (try split at h) <;> (try split at h) <;> simp only [Option.some.injEq, reduceCtorEq] at h <;> subst h <;> exact ⟨rfl, fun _ => by simp_all⟩
theorem lookupA_H {ti : TI} {ok : Bool} {H : Heap} {x y : AV} {r : OV} (h : lookupA T ti ok H x y = some r) : r.H = H := by
  unfold lookupA at h
  split at h
  · split at h
    · split at h
      · split at h
        · simp only [Option.some.injEq] at h
          subst h; rfl
        · cases h
      · cases h
    · cases h
  · cases h
theorem loadA_H {ti : TI} {H : Heap} {x : AV} {r : OV} (h : loadA ti H x = some r) : r.H = H := by
  unfold loadA at h
  split at h
  · split at h
    · cases hr : isRow ti.kind <;> rw [hr] at h <;> simp only [cond_true, cond_false, Option.some.injEq] at h <;> subst h <;> rfl
    · cases hr : isRow ti.kind <;> rw [hr] at h <;> simp only [cond_true, cond_false, Option.some.injEq] at h <;> subst h <;> rfl
    · cases h
    · cases h
    · cases h
    · cases h
  · cases hr : isRow ti.kind <;> rw [hr] at h <;> simp only [cond_true, cond_false, Option.some.injEq] at h <;> subst h <;> rfl
  · cases h
theorem makeFuncA_H {f : FuncId} {H : Heap} {l : List AV} {r : OV} (h : makeFuncA f H l = some r) : r.H = H := by
  unfold makeFuncA at h
  split at h <;> simp only [Option.some.injEq, reduceCtorEq] at h
  subst h; rfl
theorem opA_congr {s s2 : St} {op : Op} (h : ∀ x ∈ op.operands, s2.ev x = s.ev x) (hH : s2.H = s.H) : opA T s2 op = opA T s op := by
  have parts : ∀ ps : Array (Nat × Operand), (∀ x ∈ (ps.toList.map (·.2)).toArray, s2.ev x = s.ev x) → (ps.toList.map fun p => (p.1, s2.ev p.2)) = ps.toList.map fun p => (p.1, s.ev p.2) := by
    intro ps hp
    apply List.map_congr_left
    intro q hq
    rw [hp q.2 (by simpa using ⟨q.1, by simpa using hq⟩)]
  have opts : ∀ o : Option Operand, (∀ x ∈ o.toArray, s2.ev x = s.ev x) → o.map s2.ev = o.map s.ev := by
    intro o ho
    cases o with
    | none => rfl
    | some x => simp [ho x (by simp)]
  have lists : ∀ l : Array Operand, (∀ x ∈ l, s2.ev x = s.ev x) → l.toList.map s2.ev = l.toList.map s.ev := by
    intro l hl
    apply List.map_congr_left
    intro x hx
    exact hl x (by simpa using hx)
  cases op <;> simp only [Op.operands] at h
  case call c =>
    obtain ⟨callee, args, ts⟩ := c
    cases callee with
    | builtin b =>
      simp only [opA, hH]
      rw [lists args fun x hx => h x (by simpa [Call.operands] using hx)]
    | _ => simp [opA]
  case slice t x lo hi mx =>
    cases mx with
    | none =>
      simp only [opA, hH]
      rw [h x (by simp), opts lo fun y hy => h y (by simp at hy ⊢; simp [hy]), opts hi fun y hy => h y (by simp at hy ⊢; simp [hy])]
    | some _ => simp [opA]
  case makeFunc fn first caps =>
    cases fn with
    | func f =>
      simp only [opA, hH]
      rw [lists caps fun x hx => h x (by simp [hx])]
    | _ => simp [opA]
  case makeMap t r =>
    cases r with
    | none => simp only [opA, hH]
    | some _ => simp [opA]
  case build t ps => simp only [opA, hH]; rw [parts ps fun x hx => h x hx]
  case buildSlice t n ps => simp only [opA, hH]; rw [parts ps fun x hx => h x hx]
  all_goals simp only [opA, hH]
  all_goals first | rfl | (simp only [List.mem_toArray, List.mem_cons, List.not_mem_nil, or_false, forall_eq_or_imp, forall_eq] at h; simp only [h])
theorem opA_free {s : St} {op : Op} {r : OV} (hT : isT op = false) (h : opA T s op = some r) : r.H = s.H ∧ ∀ H2, opA T { s with H := H2 } op = some { r with H := H2 } := by
  have hev : ∀ (H2 : Heap) (x : Operand), ({ s with H := H2 } : St).ev x = s.ev x := fun H2 x => by cases x <;> rfl
  have hev' : ∀ (H2 : Heap), ({ s with H := H2 } : St).ev = s.ev := fun H2 => funext (hev H2)
  cases op <;> simp only [isT, Bool.true_eq_false] at hT
  case call c =>
    obtain ⟨callee, args, ts⟩ := c
    cases callee with
    | builtin b =>
      simp only [opA, hev'] at h ⊢
      cases b <;> simp only [Bool.true_eq_false] at hT
      · unfold builtinA at h ⊢
        split at h <;> simp only [reduceCtorEq] at *
        rename_i x t
        split at h
        · exact lenA_H h
        · cases h
      · simp only [builtinA] at h ⊢
        exact minmaxA_H h
      · simp only [builtinA] at h ⊢
        exact minmaxA_H h
    | _ => simp [opA] at h
  all_goals simp only [opA, hev'] at h ⊢
  case move => cases h; exact ⟨rfl, fun _ => rfl⟩
  case assign => cases h; exact ⟨rfl, fun _ => rfl⟩
  case pick => exact pickA_H h
  case binOp => exact binA_H h
  case unOp => exact unA_H h
  case nilCheck => exact nilA_H h
  case index =>
    split at h
    · exact indexA_H h
    · cases h
  case convert => exact convA_H h
  case extract => exact extractA_H h
  case fieldAddr =>
    split at h
    · exact fieldAddrA_H h
    · cases h
  case field =>
    split at h
    · rename_i x _ _ _ _
      cases hl : (s.ev x).isAgg <;> rw [hl] at h
      · cases h
      · simp only [cond_true] at h ⊢; exact fieldA_H h
    · cases h
  case indexAddr =>
    split at h
    · exact indexAddrA_H h
    · cases h
  case slice t x lo hi mx =>
    cases mx with
    | none =>
      simp only at h ⊢
      split at h
      · exact sliceA_H h
      · cases h
    | some _ => simp at h
  case build =>
    split at h
    · exact buildA_H h
    · cases h
  case buildSlice =>
    split at h
    · exact buildSliceA_H h
    · cases h
theorem opA_calm {s : St} {op : Op} {r : OV} (hW : isW op = false) (h : opA T s op = some r) : r.H = s.H := by
  by_cases hT : isT op = false
  · exact (opA_free hT h).1
  · rw [Bool.not_eq_false] at hT
    cases op <;> simp only [isT, isW, Bool.true_eq_false, Bool.false_eq_true] at hT hW
    case load =>
      simp only [opA] at h
      split at h
      · exact loadA_H h
      · cases h
    case makeFunc fn first caps =>
      cases fn with
      | func f =>
        simp only [opA] at h
        cases hf : first.isEmpty <;> rw [hf] at h
        · cases h
        · exact makeFuncA_H h
      | _ => simp [opA] at h
    case call c =>
      obtain ⟨callee, args, ts⟩ := c
      cases callee with
      | builtin b =>
        simp only [opA] at h
        unfold builtinA at h
        split at h <;> simp_all
      | _ => simp [opA] at h
    case lookup =>
      simp only [opA] at h
      split at h
      · exact lookupA_H h
      · cases h
    all_goals simp [opA] at h
theorem opA_loc (hT : ∀ t ti, T t = some ti → tiOf P t = some ti) {o : Oper} {s : St} {r : OV} (h : opA T s o.op = some r) (hvc : r.vc) : Loc1 P o s r.av r.H := by
  refine ⟨fun s2 hn ha hH => ?_, fun hf => ⟨(opA_free hf h).1, fun s2 hn ha => ?_⟩, fun hw => opA_calm hw h⟩
  · have := opA_congr (T := T) ha hH
    rw [h] at this
    exact (opA_does hT this hvc).wp
  · have h1 := (opA_free hf h).2 s2.H
    have := opA_congr (T := T) (s := { s with H := s2.H }) (s2 := s2) (op := o.op) (fun x hx => by rw [ha x hx]; cases x <;> rfl) rfl
    rw [h1] at this
    exact (opA_does hT this hvc).wp
inductive X where
  | run (vc : Prop) (s : St)
  | stop (vc : Prop) (rest : List Oper) (s : St)
def dstOk (s : St) : Option Tmp → Prop
  | none => True
  | some t => t < s.n
def after (o : Oper) (s : St) (r : OV) : St := ({ s with H := r.H } : St).put o.dst r.av
def xstep (T : TypeId → Option TI) (all : Array Oper) (o : Oper) (rest : List Oper) (vc : Prop) (s : St) : X :=
  match guardA all s o with
  | some true =>
    match opA T s o.op with
    | some r => .run (vc ∧ dstOk s o.dst ∧ r.vc) (after o s r)
    | none => .stop vc (o :: rest) s
  | some false => .run (vc ∧ dstOk s o.dst) (s.put o.dst (.p (.tup [])))
  | none => .stop vc (o :: rest) s
def aops (T : TypeId → Option TI) (all : Array Oper) : List Oper → X → X
  | [], x => x
  | o :: r, .run vc s => aops T all r (xstep T all o r vc s)
  | _ :: _, .stop vc rest s => .stop vc rest s
def Runs (P : Program) (draw : Bool) (all : Array Oper) (rest : List Oper) (K : St → Prop) (s : St) : Prop := ∃ s', Run1 P draw all rest s s' ∧ K s'
def fin (P : Program) (draw : Bool) (all : Array Oper) (K : St → Prop) : X → Prop
  | .run vc s => vc ∧ K s
  | .stop vc rest s => vc ∧ Runs P draw all rest K s
theorem dstOk_spec {s : St} {d : Option Tmp} (h : dstOk s d) : ∀ t, d = some t → t < s.n := by
  rintro t rfl; exact h
theorem aops_stop (all : Array Oper) (l : List Oper) (vc : Prop) (rest : List Oper) (s : St) : aops T all l (.stop vc rest s) = .stop vc rest s := by cases l <;> rfl
theorem aops_sound (hT : ∀ t ti, T t = some ti → tiOf P t = some ti) {draw : Bool} {all : Array Oper} {K : St → Prop} : ∀ (ops : List Oper) (vc : Prop) (s : St), fin P draw all K (aops T all ops (.run vc s)) → vc ∧ Runs P draw all ops K s
  | [], vc, s, h => ⟨h.1, s, .nil s, h.2⟩
  | o :: r, vc, s, h => by
    simp only [aops, xstep] at h
    split at h
    · rename_i hg
      split at h
      · rename_i ov hov
        obtain ⟨⟨h1, h2, h3⟩, s', hr, hK⟩ := aops_sound hT r _ _ h
        exact ⟨h1, s', .cons (.op s ov.av ov.H hg (dstOk_spec h2) (opA_does hT hov h3).wp fun _ => opA_loc hT hov h3) hr, hK⟩
      · rw [aops_stop] at h; exact h
    · rename_i hg
      obtain ⟨⟨h1, h2⟩, s', hr, hK⟩ := aops_sound hT r _ _ h
      exact ⟨h1, s', .cons (.skip s hg (dstOk_spec h2)) hr, hK⟩
    · rw [aops_stop] at h; exact h
theorem runs_eval (hT : ∀ t ti, T t = some ti → tiOf P t = some ti) {draw : Bool} {all : Array Oper} {rest : List Oper} {K : St → Prop} {s : St} (h : fin P draw all K (aops T all rest (.run True s))) : Runs P draw all rest K s :=
  (aops_sound hT rest True s h).2
end
end Go.Pv
namespace Go.Pv
open Go.RowKit
def Holds (P : Program) (c : Code) (Q : Exit → St → Prop) (s : St) : Prop :=
  ∀ (r : Option Nat) (ds : List Deferred) C m (a : Act) w, Rel C m s a.tmps w → a.defers = ds → wpR r P c (fun e a' w' => ∃ s' m', Q e s' ∧ Rel C m' s' a'.tmps w' ∧ a'.defers = ds) a w
def Thn (K : St → Prop) (Q : Exit → St → Prop) : Exit → St → Prop
  | .normal, s => K s
  | e, s => Q e s
def InB (id : Nat) (Q : Exit → St → Prop) : Exit → St → Prop
  | .exit j, s => if j = id then Q .normal s else Q (.exit j) s
  | e, s => Q e s
section
variable {P : Program} {Q : Exit → St → Prop} {s : St}
theorem thn_n {K : St → Prop} (h : K s) : Thn K Q .normal s := h
theorem thn_r {K : St → Prop} (h : Q .ret s) : Thn K Q .ret s := h
theorem thn_x {K : St → Prop} {id : Nat} (h : Q (.exit id) s) : Thn K Q (.exit id) s := h
theorem inb_n {id : Nat} (h : Q .normal s) : InB id Q .normal s := h
theorem inb_r {id : Nat} (h : Q .ret s) : InB id Q .ret s := h
theorem inb_x {id : Nat} (h : Q .normal s) : InB id Q (.exit id) s := by simp only [InB, if_true]; exact h
theorem inb_y {id j : Nat} (hne : (j == id) = false) (h : Q (.exit j) s) : InB id Q (.exit j) s := by
  have : ¬ j = id := by simpa using hne
  simp only [InB, this, if_false]; exact h
theorem hk_mono {c : Code} {Q' : Exit → St → Prop} (hq : ∀ e s, Q e s → Q' e s) (h : Holds P c Q s) : Holds P c Q' s :=
  fun r ds C m a w R hd => wpR_mono (h r ds C m a w R hd) fun _ _ _ ⟨s', m', h1, h2⟩ => ⟨s', m', hq _ _ h1, h2⟩
theorem hk_seq {x y : Code} (h : Holds P x (Thn (Holds P y Q) Q) s) : Holds P (.seq x y) Q s := by
  intro r ds C m a w R hd
  refine wpR_seq (wpR_mono (h r ds C m a w R hd) fun e a' w' ⟨s', m', h1, h2, h3⟩ => ?_)
  cases e with
  | normal => exact h1 r ds C m' a' w' h2 h3
  | _ => exact ⟨s', m', h1, h2, h3⟩
theorem hk_block {id : Nat} {c : Code} (h : Holds P c (InB id Q) s) : Holds P (.block id c) Q s := by
  intro r ds C m a w R hd
  refine wpR_block (wpR_mono (h r ds C m a w R hd) fun e a' w' ⟨s', m', h1, h2, h3⟩ => ?_)
  cases e with
  | exit j =>
    simp only [InB, Exit.inBlock] at h1 ⊢
    by_cases e : j = id
    · rw [if_pos e] at h1 ⊢; exact ⟨s', m', h1, h2, h3⟩
    · rw [if_neg e] at h1 ⊢; exact ⟨s', m', h1, h2, h3⟩
  | _ => exact ⟨s', m', h1, h2, h3⟩
theorem hk_skip (h : Q .normal s) : Holds P .skip Q s := fun _ _ _ m _ _ R hd => wpR_skip ⟨s, m, h, R, hd⟩
theorem hk_label {l : Nat} (h : Q .normal s) : Holds P (.label l) Q s := fun _ _ _ m _ _ R hd => wpR_label ⟨s, m, h, R, hd⟩
theorem hk_exit {id : Nat} (h : Q (.exit id) s) : Holds P (.exit id) Q s := fun _ _ _ m _ _ R hd => wpR_exit ⟨s, m, h, R, hd⟩
theorem hk_ret (h : Q .ret s) : Holds P .ret Q s := fun _ _ _ m _ _ R hd => wpR_ret ⟨s, m, h, R, hd⟩
def testA (s : St) (c : Operand) : Option Bool :=
  match s.ev c with
  | .p (.bool b) => some b
  | _ => none
theorem hk_cond {c : Operand} {x y : Code} {b : Bool} (hc : testA s c = some b) (hx : b = true → Holds P x Q s) (hy : b = false → Holds P y Q s) : Holds P (.cond c x y) Q s := by
  intro r ds C m a w R hd
  have he : a.eval c = .bool b := by
    have := R.ev c
    unfold testA at hc
    split at hc <;> simp only [Option.some.injEq, reduceCtorEq] at hc
    rename_i b' hb
    rw [hb] at this
    rw [← hc]
    exact this.p_inv.bool_inv
  exact wpR_cond_split he (fun h => hx h r ds C m a w R hd) (fun h => hy h r ds C m a w R hd)
theorem hk_region {id : Nat} {l : List Oper} (h : ∀ K : St → Prop, (∀ s', Q .normal s' → K s') → Runs P false l.toArray l K s) : Holds P (.region id l.toArray false) Q s := by
  intro r ds C m a w R hd
  obtain ⟨s', hr, hK⟩ := h (Q .normal) fun _ h => h
  exact wpR_region_lit (hr.sound R hd fun m' a' w' R' hd' => ⟨s', m', hK, R', hd'⟩)
def noGW (l : List Oper) : Bool := l.all fun o => o.guard.isNone || !isW o.op
theorem hk_draw {id : Nat} {l : List Oper} (hm : P.follows .mixedOrders = true) (hok : (drawOK l.toArray && noGW l) = true) (h : ∀ K : St → Prop, (∀ s', Q .normal s' → K s') → Runs P true l.toArray l K s) : Holds P (.region id l.toArray true) Q s := by
  intro r ds C m a w R hd
  rw [Bool.and_eq_true] at hok
  obtain ⟨s', hr, hK⟩ := h (Q .normal) fun _ h => h
  refine wpR_region_any hm ?_
  refine draw_sound hok.1 (fun o ho hg => ?_) hr (R.later ⟨rfl, rfl, rfl, Nat.le_refl _, fun _ _ => rfl, Nat.le_succ _⟩) hd fun m' a' w' R' hd' => ⟨s', m', hK, R', hd'⟩
  have := (List.all_eq_true.1 hok.2) o ho
  cases hgu : o.guard with
  | none => exact absurd hgu hg
  | some g => rw [hgu] at this; simpa using this
def sc1 (n : Nat) : AV → Bool
  | .sl k _ _ => k < n
  | .ptr k _ => k < n
  | .mptr k => k < n
  | .sls k _ _ _ => k < n
  | .agg _ => false
  | .tup _ => false
  | .cl _ _ => false
  | .yv _ _ _ => false
  | _ => true
def scA (n : Nat) : AV → Bool
  | .agg l => l.all (sc1 n)
  | .tup l => l.all (sc1 n)
  | .cl _ l => l.all (sc1 n)
  | .yv k l _ => decide (k < n) && l.all (sc1 n)
  | x => sc1 n x
def ren1 (π : List Nat) : AV → AV
  | .sl k lo len => .sl (π.getD k 0) lo len
  | .ptr k i => .ptr (π.getD k 0) i
  | .mptr k => .mptr (π.getD k 0)
  | .sls k lo len sz => .sls (π.getD k 0) lo len sz
  | x => x
def ren (π : List Nat) : AV → AV
  | .agg l => .agg (l.map (ren1 π))
  | .tup l => .tup (l.map (ren1 π))
  | .cl f l => .cl f (l.map (ren1 π))
  | .yv k l vs => .yv (π.getD k 0) (l.map (ren1 π)) vs
  | x => ren1 π x
def LeS (π : List Nat) : List (Nat × AV) → St → Prop
  | [], _ => True
  | (t, x) :: r, s => s.get t = ren π x ∧ scA π.length x = true ∧ LeS π r s
def LeB (π : List Nat) (H : Heap) (k : Nat) : Blk → Prop
  | .dead => True
  | .own c => (match hget H k with | .own d => c.map (ren π) = d.take c.length ∧ c.all (scA π.length) = true | _ => False)
  | .fro c => hget H k = .fro c
  | .mp kk d v => hget H k = .mp kk d v
  | .lp r => hget H k = .lp r
  | .anc i j => hget H k = .anc i (π.getD j 0) ∧ j < π.length
def LeH (π : List Nat) (H : Heap) : List Nat → Heap → Prop
  | [], [] => True
  | k :: ks, b :: r => LeB π H k b ∧ LeH π H ks r
  | _, _ => False
def Le (π : List Nat) (s1 s : St) : Prop := s1.n = s.n ∧ π.Nodup ∧ LeH π s.H π s1.H ∧ LeS π s1.sl s
theorem LeS.get {π : List Nat} : ∀ {l : List (Nat × AV)} {s : St}, LeS π l s → ∀ t, lk l t = .dead ∨ (s.get t = ren π (lk l t) ∧ scA π.length (lk l t) = true)
  | [], s, _, t => .inl rfl
  | (i, x) :: r, s, h, t => by
    simp only [lk]
    cases e : (i == t)
    · simp only [cond_false]; exact LeS.get h.2.2 t
    · simp only [cond_true]
      have : i = t := by simpa using e
      subst this
      exact .inr ⟨h.1, h.2.1⟩
theorem LeH.get {π : List Nat} {H : Heap} : ∀ {ks : List Nat} {H1 : Heap}, LeH π H ks H1 → ks.length = H1.length ∧ ∀ (k : Nat) (b : Blk), H1[k]? = some b → ∃ k', ks[k]? = some k' ∧ LeB π H k' b
  | [], [], _ => ⟨rfl, fun k b h => by simp at h⟩
  | k0 :: ks, b0 :: r, h => by
    obtain ⟨h1, h2⟩ := LeH.get h.2
    refine ⟨by simp [h1], fun k b hk => ?_⟩
    cases k with
    | zero => simp at hk; subst hk; exact ⟨k0, rfl, h.1⟩
    | succ k => simpa using h2 k b (by simpa using hk)
  | [], _ :: _, h => h.elim
  | _ :: _, [], h => h.elim
def mren (m : Map) (π : List Nat) : Map := fun k => (π[k]?).bind m
theorem AVal.unren1 {rd rd' : PV → Value → Prop} {m : Map} {H H1 : Heap} {π : List Nat} (h1 : ∀ p v, rd p v → rd' p v) (hl1 : H1.length = π.length) {x : AV} {v : Value} (h : AVal rd m H (ren1 π x) v) (hs : sc1 π.length x = true) : AVal rd' (mren m π) H1 x v := by
  cases x with
  | dead => exact .dead v
  | p pv => exact .p pv v (h1 _ _ h.p_inv)
  | sl k lo len =>
    have hk : k < π.length := by simpa [sc1] using hs
    simp only [ren1, List.getD_eq_getElem?_getD, List.getElem?_eq_getElem hk, Option.getD_some] at h
    cases h with
    | sl _ _ _ _ _ h =>
      refine .sl k lo len v (by omega) ?_
      unfold SlOk mren at *
      rw [List.getElem?_eq_getElem hk]
      exact h
  | ptr k i =>
    have hk : k < π.length := by simpa [sc1] using hs
    simp only [ren1, List.getD_eq_getElem?_getD, List.getElem?_eq_getElem hk, Option.getD_some] at h
    cases h with
    | ptr _ _ _ _ h =>
      refine .ptr k i v (by omega) ?_
      unfold PtrOk mren at *
      rw [List.getElem?_eq_getElem hk]
      exact h
  | agg l => simp [sc1] at hs
  | tup l => simp [sc1] at hs
  | cl f l => simp [sc1] at hs
  | itv r => cases h; exact .itv r
  | sls k lo len sz =>
    have hk : k < π.length := by simpa [sc1] using hs
    simp only [ren1, List.getD_eq_getElem?_getD, List.getElem?_eq_getElem hk, Option.getD_some] at h
    cases h with
    | sls _ _ _ _ _ _ h =>
      refine .sls k lo len sz v (by omega) ?_
      unfold SlsOk mren at *
      rw [List.getElem?_eq_getElem hk]
      exact h
  | mptr k =>
    have hk : k < π.length := by simpa [sc1] using hs
    simp only [ren1, List.getD_eq_getElem?_getD, List.getElem?_eq_getElem hk, Option.getD_some] at h
    cases h with
    | mptr _ _ _ h =>
      refine .mptr k v (by omega) ?_
      unfold MptrOk mren at *
      rw [List.getElem?_eq_getElem hk]
      exact h
  | yv k l vs => simp [sc1] at hs
theorem AVal.unren {rd rd' : PV → Value → Prop} {m : Map} {H H1 : Heap} {π : List Nat} (h1 : ∀ p v, rd p v → rd' p v) (hl1 : H1.length = π.length) {x : AV} {v : Value} (h : AVal rd m H (ren π x) v) (hs : scA π.length x = true) : AVal rd' (mren m π) H1 x v := by
  cases x with
  | agg l =>
    simp only [ren, scA] at h hs
    cases h with
    | agg _ vs hl hr =>
      refine .agg l vs (by simpa using hl) fun c hc => ?_
      have := hr c (by simpa using hc)
      rw [List.getElem_map] at this
      exact this.unren1 h1 hl1 ((List.all_eq_true.1 hs) _ (List.getElem_mem hc))
  | tup l =>
    simp only [ren, scA] at h hs
    cases h with
    | tup _ vs hl hr =>
      refine .tup l vs (by simpa using hl) fun c hc => ?_
      have := hr c (by simpa using hc)
      rw [List.getElem_map] at this
      exact this.unren1 h1 hl1 ((List.all_eq_true.1 hs) _ (List.getElem_mem hc))
  | cl f l =>
    simp only [ren, scA] at h hs
    cases h with
    | cl _ _ vs hl hr =>
      refine .cl f l vs (by simpa using hl) fun c hc => ?_
      have := hr c (by simpa using hc)
      rw [List.getElem_map] at this
      exact this.unren1 h1 hl1 ((List.all_eq_true.1 hs) _ (List.getElem_mem hc))
  | yv k l vs =>
    simp only [ren, scA, Bool.and_eq_true, decide_eq_true_eq] at h hs
    obtain ⟨hk, hs⟩ := hs
    simp only [List.getD_eq_getElem?_getD, List.getElem?_eq_getElem hk, Option.getD_some] at h
    cases h with
    | yv _ _ _ _ _ h hl hr =>
      refine .yv k l vs v (by omega) ?_ (by simpa using hl) fun c hc => ?_
      · unfold YvOk mren at *
        rw [List.getElem?_eq_getElem hk]
        exact h
      · have := hr c (by simpa using hc)
        rw [List.getElem_map] at this
        exact this.unren1 h1 hl1 ((List.all_eq_true.1 hs) _ (List.getElem_mem hc))
  | dead => exact .dead v
  | p pv => exact AVal.unren1 h1 hl1 h hs
  | sl k lo len => exact AVal.unren1 h1 hl1 h hs
  | ptr k i => exact AVal.unren1 h1 hl1 h hs
  | mptr k => exact AVal.unren1 h1 hl1 h hs
  | itv r => exact AVal.unren1 h1 hl1 h hs
  | sls k lo len sz => exact AVal.unren1 h1 hl1 h hs
def Blk.wr : Blk → Bool
  | .own _ => true
  | .mp _ _ _ => true
  | .lp _ => true
  | _ => false
theorem LeH.own {π : List Nat} {H H1 : Heap} (g2 : ∀ (k : Nat) (b : Blk), H1[k]? = some b → ∃ k', π[k]? = some k' ∧ LeB π H k' b) : ∀ (k : Nat) (c : List AV), H1[k]? = some (Blk.own c) → ∃ (k' : Nat) (d : List AV), π[k]? = some k' ∧ H[k']? = some (Blk.own d) ∧ c.all (scA π.length) = true ∧ c.map (ren π) = d.take c.length := by
  intro k c hk
  obtain ⟨k', a, b⟩ := g2 k _ hk
  unfold LeB at b
  simp only at b
  split at b
  · rename_i d hd
    exact ⟨k', d, a, hget_mut hd, b.2, b.1⟩
  · exact b.elim
theorem OK.weaken {C : Ctx} {m : Map} {H H1 : Heap} {π : List Nat} {w : World} (h3 : LeH π H π H1) : ∀ b, OK C m H w b → OK C (mren m π) H1 w b := by
  refine fun b hb => ⟨hb.1, hb.2.1, fun k c l hk hl => ?_⟩
  obtain ⟨k', d, a1, a2, a3, _⟩ := LeH.own (h3.get).2 k c hk
  simp only [mren, a1, Option.bind_some] at hl
  exact hb.2.2 k' _ l a2 hl
theorem Rel.weakenC {C C' : Ctx} {m : Map} {s1 : St} {π : List Nat} {tmps tmps' : Array Value} {w : World} (R : Rel C m s tmps w) (e1 : tmps'.size = s1.n) (hnd : π.Nodup) (h3 : LeH π s.H π s1.H) (ho : ∀ b, OK C m s.H w b → OK C' (mren m π) s1.H w b)
    (hbel : BelowP C'.B C'.w0 w) (hbase : ∀ b, w.heap.size ≤ b → C'.B b) (hB : ∀ (k : Nat) (b : Blk) (l : Loc), s1.H[k]? = some b → b.wr = true → mren m π k = some l → C.B l.g → C'.B l.g)
    (hanc : ∀ (k i j : Nat), s1.H[k]? = some (Blk.anc i j) → j < s1.H.length ∧ mren m π j = C'.anc i) (hslot : ∀ t, AVal (Reads (OK C' (mren m π) s1.H w) w) (mren m π) s1.H (s1.get t) (tmps'.getD t undef)) : Rel C' (mren m π) s1 tmps' w := by
  obtain ⟨g1, g2⟩ := h3.get
  have own := LeH.own g2
  have hr : ∀ p v, Reads (OK C m s.H w) w p v → Reads (OK C' (mren m π) s1.H w) w p v := fun p v h => h.mono ho
  have mps : ∀ (k : Nat) (kk : IntKind) (d : Int → Bool) (v : Int → PV), s1.H[k]? = some (Blk.mp kk d v) → ∃ k', π[k]? = some k' ∧ s.H[k']? = some (Blk.mp kk d v) := by
    intro k kk d v hk
    obtain ⟨k', a, b⟩ := g2 k _ hk
    exact ⟨k', a, hget_some b (by simp)⟩
  refine ⟨R.laid.ext hr, hbel, hbase, e1, ?_, ?_, ?_, hslot, fun k kk d v hk => ?_, fun k k' kk d v kk' d' v' l l' h1 h2 h3 h4 h5 => ?_, hanc, ?_⟩
  rotate_left 5
  · have lps : ∀ (k : Nat) (r : Loop), s1.H[k]? = some (Blk.lp r) → ∃ k', π[k]? = some k' ∧ s.H[k']? = some (Blk.lp r) := by
      intro k r hk
      obtain ⟨k', a, b⟩ := g2 k _ hk
      exact ⟨k', a, hget_some b (by simp)⟩
    refine R.mp.2.2.2.ext (fun k => π.getD k 0) (fun k r h => ?_) (fun k k' r r' h1 h2 e => ?_) (fun _ _ _ _ _ _ => rfl) fun k r l h hl h2 => hB k _ l h rfl hl h2
    · obtain ⟨k', a1, a2⟩ := lps k r h
      have e : π.getD k 0 = k' := by simp [List.getD, a1]
      exact ⟨by simp only [e]; exact a2, by simp only [mren, a1, Option.bind_some, e]⟩
    · obtain ⟨j, a1, _⟩ := lps k r h1
      obtain ⟨j', b1, _⟩ := lps k' r' h2
      simp only [List.getD, a1, b1, Option.getD_some] at e
      obtain ⟨hk, hk2⟩ := List.getElem?_eq_some_iff.1 a1
      obtain ⟨hk', hk2'⟩ := List.getElem?_eq_some_iff.1 b1
      have hp := List.pairwise_iff_getElem.1 hnd
      rcases Nat.lt_trichotomy k k' with h | h | h
      · exact absurd (hk2.trans (e.trans hk2'.symm)) (hp k k' hk hk' h)
      · exact h
      · exact absurd (hk2'.trans (e.symm.trans hk2.symm)) (hp k' k hk' hk h)
  rotate_left 3
  · obtain ⟨j, b1, b2⟩ := mps k kk d v hk
    have hm : mren m π k = m j := by simp only [mren, b1, Option.bind_some]
    obtain ⟨l, ar, clk, vs, a1, a2, a3, a4, a5, a6, a7⟩ := R.mp.1 j kk d v b2
    exact ⟨l, ar, clk, vs, by rw [hm]; exact a1, hB k _ l hk rfl (by rw [hm]; exact a1) a2, a3, a4, a5, a6, fun z hz => hr _ _ (a7 z hz)⟩
  · obtain ⟨j, b1, b2⟩ := mps _ _ _ _ h1
    obtain ⟨j', c1, c2⟩ := mps _ _ _ _ h2
    simp only [mren, b1, c1, Option.bind_some] at h3 h4
    have := R.mp.2.1 _ _ _ _ _ _ _ _ _ _ b2 c2 h3 h4 h5
    subst this
    obtain ⟨hk, hk2⟩ := List.getElem?_eq_some_iff.1 b1
    obtain ⟨hk', hk2'⟩ := List.getElem?_eq_some_iff.1 c1
    have hp := List.pairwise_iff_getElem.1 hnd
    rcases Nat.lt_trichotomy k k' with h | h | h
    · exact absurd (hk2.trans hk2'.symm) (hp k k' hk hk' h)
    · exact h
    · exact absurd (hk2'.trans hk2.symm) (hp k' k hk' hk h)
  · intro k k' c c' l l' a1 a2 a3 a4 a5
    obtain ⟨j, _, b1, b2, _⟩ := own k c a1
    obtain ⟨j', _, b1', b2', _⟩ := own k' c' a2
    simp only [mren, b1, b1', Option.bind_some] at a3 a4
    have := R.inj j j' _ _ l l' b2 b2' a3 a4 a5
    subst this
    obtain ⟨hk, hk2⟩ := List.getElem?_eq_some_iff.1 b1
    obtain ⟨hk', hk2'⟩ := List.getElem?_eq_some_iff.1 b1'
    have hp := List.pairwise_iff_getElem.1 hnd
    rcases Nat.lt_trichotomy k k' with h | h | h
    · exact absurd (hk2.trans hk2'.symm) (hp k k' hk hk' h)
    · exact h
    · exact absurd (hk2'.trans hk2.symm) (hp k' k hk' hk h)
  · intro k c hk
    obtain ⟨k', d, a1, a2, hsc, hcd⟩ := own k c hk
    have hm : mren m π k = m k' := by simp only [mren, a1, Option.bind_some]
    have hlen : c.length ≤ d.length := by
      have := congrArg List.length hcd
      simp only [List.length_map, List.length_take] at this
      omega
    rcases R.blk k' _ a2 with ⟨hc, hn⟩ | ⟨l, cur, e, b1, b2, b3, b4, b5, b6, b7⟩
    · subst hc
      exact .inl ⟨List.eq_nil_of_length_eq_zero (by simpa using hlen), by rw [hm]; exact hn⟩
    · refine .inr ⟨l, cur, e, by rw [hm]; exact b1, hB k _ l hk rfl (by rw [hm]; exact b1) b2, b3, b4, b5, by omega, fun j hj => ?_⟩
      have := b7 j (by omega)
      have e : d[j]'(by omega) = ren π c[j] := by
        have h3 : (c.map (ren π))[j]? = (d.take c.length)[j]? := by rw [hcd]
        rw [List.getElem?_map, List.getElem?_eq_getElem hj, List.getElem?_take, if_pos hj, List.getElem?_eq_getElem (by omega)] at h3
        simpa using h3.symm
      rw [e] at this
      exact this.unren hr g1.symm ((List.all_eq_true.1 hsc) _ (List.getElem_mem hj))
  · intro k c hk
    obtain ⟨k', a, b⟩ := g2 k _ hk
    have hm : mren m π k = m k' := by simp only [mren, a, Option.bind_some]
    rcases (R.fro k' c (hget_fro b)).ext (m' := m) ho (fun _ _ => rfl) rfl with ⟨e1, e2⟩ | ⟨l, vs, e1, e2⟩
    · exact .inl ⟨e1, by rw [hm]; exact e2⟩
    · exact .inr ⟨l, vs, by rw [hm]; exact e1, e2⟩
theorem Rel.weaken {C : Ctx} {m : Map} {s1 : St} {π : List Nat} {tmps : Array Value} {w : World} (R : Rel C m s tmps w) (h : Le π s1 s) : Rel C (mren m π) s1 tmps w := by
  obtain ⟨e1, hnd, h3, h2⟩ := h
  have ho := OK.weaken (C := C) (m := m) (w := w) h3
  obtain ⟨g1, g2⟩ := h3.get
  refine R.weakenC (by rw [e1]; exact R.size) hnd h3 ho R.below R.base (fun _ _ _ _ _ _ h => h) (fun k i j hk => ?_) fun t => ?_
  · obtain ⟨k', a, b⟩ := g2 k _ hk
    unfold LeB at b
    simp only at b
    obtain ⟨b1, b2⟩ := b
    obtain ⟨_, c2⟩ := R.mp.2.2.1 k' i _ (hget_some b1 (by simp))
    refine ⟨by omega, ?_⟩
    rw [← c2]
    simp only [mren, List.getElem?_eq_getElem b2, Option.bind_some, List.getD_eq_getElem?_getD, Option.getD_some]
  · rcases h2.get t with e | ⟨e, hsc⟩
    · unfold St.get; rw [e]; exact .dead _
    · have := R.slot t
      rw [e] at this
      exact this.unren (fun p v h => h.mono ho) g1.symm hsc
theorem hk_le {c : Code} {s1 : St} (π : List Nat) (hle : Le π s1 s) (h : Holds P c Q s1) : Holds P c Q s :=
  fun r ds C m a w R hd => h r ds C _ a w (R.weaken hle) hd
theorem hk_loop {c : Code} {ι : Type} (S : ι → St) (I : ι → Prop) (μ : ι → Nat) (i0 : ι) (h0 : I i0) (π : List Nat) (hs : Le π (S i0) s)
    (step : ∀ i, I i → Holds P c (Thn (fun s' => ∃ j π, I j ∧ μ j < μ i ∧ Le π (S j) s') Q) (S i)) : Holds P (.loop c) Q s := by
  intro r ds C m a w R hd
  let good : Nat → Act → World → Prop := fun n a w => ∃ i m, I i ∧ μ i = n ∧ Rel C m (S i) a.tmps w ∧ a.defers = ds
  have least : ∀ (p : Nat → Prop), (∃ n, p n) → ∃ n, p n ∧ ∀ k, p k → n ≤ k := by
    intro p ⟨n, hn⟩
    induction n using Nat.strongRecOn with
    | _ n ih =>
      by_cases h : ∃ k, k < n ∧ p k
      · obtain ⟨k, hk, hp⟩ := h; exact ih k hk hp
      · exact ⟨n, hn, fun k hp => Nat.le_of_not_lt fun hk => h ⟨k, hk, hp⟩⟩
  have hex : ∀ a w, ∃ n, (∃ k, good k a w) → good n a w ∧ ∀ k, good k a w → n ≤ k := by
    intro a w
    by_cases h : ∃ k, good k a w
    · obtain ⟨n, h1, h2⟩ := least _ h; exact ⟨n, fun _ => ⟨h1, h2⟩⟩
    · exact ⟨0, fun h' => absurd h' h⟩
  let ms : Act → World → Nat := fun a w => Classical.choose (hex a w)
  have hms : ∀ a w, (∃ k, good k a w) → good (ms a w) a w ∧ ∀ k, good k a w → ms a w ≤ k := fun a w => Classical.choose_spec (hex a w)
  refine wpR_loop (fun a w => ∃ k, good k a w) ms ⟨μ i0, i0, _, h0, rfl, R.weaken hs, hd⟩ fun a w hg => ?_
  obtain ⟨⟨i, m, hI, hμ, R, hd⟩, _⟩ := hms a w hg
  refine wpR_mono (step i hI r ds C m a w R hd) fun e a' w' ⟨s', m', h1, h2, h3⟩ => ?_
  cases e with
  | normal =>
    obtain ⟨j, π', hJ, hlt, hle⟩ := h1
    have hg' : good (μ j) a' w' := ⟨j, _, hJ, rfl, h2.weaken hle, h3⟩
    exact ⟨⟨_, hg'⟩, by have := (hms a' w' ⟨_, hg'⟩).2 _ hg'; rw [hμ] at hlt; omega⟩
  | _ => exact ⟨s', m', h1, h2, h3⟩
end
end Go.Pv
namespace Go.Pv
open Go.RowKit
def peekS (H : Heap) : AV → Option (Prop × PV × Bool)
  | .p v => some (True, v, true)
  | .sl k lo len =>
    match hget H k with
    | .own c =>
      match allP ((c.drop lo).take len) with
      | some ps => some (lo + len ≤ c.length ∧ ps.all PV.one = true, .list ps, false)
      | none => none
    | .fro c => some (lo + len ≤ c.length ∧ ((c.drop lo).take len).all PV.one = true, .list ((c.drop lo).take len), true)
    | .dead => none
    | .mp _ _ _ => none
    | .anc _ _ => none
    | .lp _ => none
  | .ptr k i =>
    match hget H k with
    | .fro c => some (i ≤ c.length, .ptr (c.drop i), true)
    | .own c =>
      match allP (c.drop i) with
      | some ps => some (i ≤ c.length, .ptr ps, false)
      | none => none
    | .dead => none
    | .mp _ _ _ => none
    | .anc _ _ => none
    | .lp _ => none
  | _ => none
def peekList (f : AV → Option (Prop × PV × Bool)) : List AV → Option (Prop × List PV × Bool)
  | [] => some (True, [], true)
  | x :: r =>
    match f x, peekList f r with
    | some (p, v, b), some (q, l, c) => some (p ∧ q, v :: l, b && c)
    | _, _ => none
def peekG (H : Heap) : AV → Option (Prop × PV × Bool)
  | .agg l => match peekList (peekS H) l with | some (p, ps, b) => some (p, .agg ps, b) | none => none
  | .cl f l => match peekList (peekS H) l with | some (p, ps, b) => some (p, .fn f ps, b) | none => none
  | x => peekS H x
def peekA (H : Heap) : AV → Option (Prop × PV × Bool)
  | .tup l => match peekList (peekG H) l with | some (p, ps, b) => some (p, .tup ps, b) | none => none
  | x => peekG H x
section
variable {P : Program} {T : TypeId → Option TI} {C : Ctx} {m : Map} {s : St} {tmps : Array Value} {w : World}
def okN (okA : Nat → Prop) (w w' : World) (b : Nat) : Prop := (okA b ∨ w.heap.size ≤ b) ∧ b < w'.heap.size
def fresh (okA : Nat → Prop) (w : World) : Ctx := ⟨okA, fun b => w.heap.size ≤ b, w, fun _ => none⟩
def okE (C : Ctx) (w : World) (b : Nat) : Prop := (C.okA b ∨ C.B b) ∧ b < w.heap.size
def Peeks (C : Ctx) (m : Map) (H : Heap) (w : World) (pv : PV) (b : Bool) (v : Value) : Prop := Reads (okE C w) w pv v ∧ (b = true → Reads (OK C m H w) w pv v)
theorem ok_okE {H : Heap} (b : Nat) (h : OK C m H w b) : okE C w b := ⟨h.1, h.2.1⟩
theorem Peeks.of {H : Heap} {pv : PV} {b : Bool} {v : Value} (h : Reads (OK C m H w) w pv v) : Peeks C m H w pv b v := ⟨h.mono (fun b hb => ok_okE b hb), fun _ => h⟩
theorem row_reads {ok : Nat → Prop} {ps : List PV} {g o len cap : Nat} (hl : ps.length = len) (hone : ps.all PV.one = true) (hok : ok g) (hcap : len ≤ cap) (vs : Nat → Value)
    (hc : ∀ j, j < len → w.cell? ⟨g, o + j, none⟩ = some (vs j)) (hr : ∀ j (h : j < ps.length), Reads ok w ps[j] (vs j)) : Reads ok w (.list ps) (.slice (some ⟨g, o, none⟩) len cap) := by
  subst hl
  have hf := flat_all_one hone
  refine .list ps g o cap 1 vs hok (fun x hx => ?_) hcap (fun c hcl => ?_) fun c hcl => ?_
  · rw [cells_one ((List.all_eq_true.1 hone) x hx)]; rfl
  · rw [hf] at hcl; exact hc c hcl
  · simp only [hf] at hcl ⊢; exact hr c hcl
theorem peekS_val (R : Rel C m s tmps w) {x : AV} {v : Value} (hv : AVal (Reads (OK C m s.H w) w) m s.H x v) {p : Prop} {pv : PV} {b : Bool} (h : peekS s.H x = some (p, pv, b)) (hp : p) : Peeks C m s.H w pv b v := by
  unfold peekS at h
  split at h
  · simp only [Option.some.injEq, Prod.mk.injEq] at h
    obtain ⟨_, rfl, rfl⟩ := h
    exact .of hv.p_inv
  · rename_i k lo len
    cases hv with
    | sl _ _ _ _ hk hs =>
      split at h
      · rename_i c hg
        split at h <;> simp only [Option.some.injEq, Prod.mk.injEq, reduceCtorEq] at h
        rename_i ps hps
        obtain ⟨rfl, rfl, rfl⟩ := h
        obtain ⟨h1, h2⟩ := hp
        have hcs := allP_some hps
        have hlen : ps.length = len := by
          have := congrArg List.length hcs
          simp only [List.length_take, List.length_drop, List.length_map] at this
          omega
        refine ⟨?_, fun h => by cases h⟩
        rcases hs with ⟨rfl, ad, rfl⟩ | ⟨l, cap, hm, rfl, hc1, hc2⟩
        · have : ps = [] := List.eq_nil_of_length_eq_zero hlen
          subst this
          exact .list0 _ _ fun _ => rfl
        · rcases R.blk k c (hget_mut hg) with ⟨_, hn⟩ | ⟨l', cur, e, hm2, hB, hh, hs1, hs3, hs2, hcells⟩
          · rw [hm] at hn; cases hn
          · rw [hm] at hm2; cases hm2
            refine row_reads hlen h2 ⟨.inr hB, (Array.getElem?_eq_some_iff.1 hh).1⟩ hc1 (fun j => cur.getD (l.o + (lo + j)) undef) (fun j hj => ?_) fun j hj => ?_
            · rw [Nat.add_assoc]; exact cell_of hh (by omega)
            · have := hcells (lo + j) (by omega)
              have e : c[lo + j]'(by omega) = .p ps[j] := by
                have h3 : ((c.drop lo).take len)[j]? = (ps.map AV.p)[j]? := by rw [hcs]
                rw [List.getElem?_take, if_pos (by omega), List.getElem?_drop, List.getElem?_eq_getElem (by omega), List.getElem?_map, List.getElem?_eq_getElem hj] at h3
                simpa using h3
              rw [e] at this
              exact this.p_inv.mono (fun b hb => ok_okE b hb)
      · rename_i c hg
        simp only [Option.some.injEq, Prod.mk.injEq] at h
        obtain ⟨rfl, rfl, rfl⟩ := h
        obtain ⟨h1, h2⟩ := hp
        have hlen : ((c.drop lo).take len).length = len := by simp only [List.length_take, List.length_drop]; omega
        refine .of ?_
        rcases hs with ⟨rfl, ad, rfl⟩ | ⟨l, cap, hm, rfl, hc1, hc2⟩
        · simp only [List.take_zero]
          exact .list0 _ _ fun _ => rfl
        · rcases R.fro k c (hget_fro hg) with ⟨_, hn⟩ | ⟨l', vs, hm2, hB, hl, hcells⟩
          · rw [hm] at hn; cases hn
          · rw [hm] at hm2; cases hm2
            refine row_reads hlen h2 hB hc1 (fun j => vs (lo + j)) (fun j hj => ?_) fun j hj => ?_
            · rw [Nat.add_assoc]; exact (hcells (lo + j) (by omega)).1
            · rw [hlen] at hj
              simp only [List.getElem_take, List.getElem_drop]
              exact (hcells (lo + j) (by omega)).2
      · cases h
      · cases h
      · cases h
      · cases h
  · rename_i k i
    split at h
    · rename_i c hg
      simp only [Option.some.injEq, Prod.mk.injEq] at h
      obtain ⟨rfl, rfl, rfl⟩ := h
      cases hv with
      | ptr _ _ _ hk hs =>
      obtain ⟨l, hm, rfl⟩ := hs
      rcases R.fro k c (hget_fro hg) with ⟨_, hn⟩ | ⟨l', vs, hm2, hB, hl, hcells⟩
      · rw [hm] at hn; cases hn
      · rw [hm] at hm2; cases hm2
        refine .of (.ptr _ _ _ (fun j => vs (i + j)) hB (fun j hj => ?_) fun j hj => ?_)
        · simp only [List.length_drop] at hj
          rw [Nat.add_assoc]; exact (hcells (i + j) (by omega)).1
        · simp only [List.length_drop] at hj
          simp only [List.getElem_drop]
          exact (hcells (i + j) (by omega)).2
    · rename_i c hg
      split at h <;> simp only [Option.some.injEq, Prod.mk.injEq, reduceCtorEq] at h
      rename_i ps hps
      obtain ⟨rfl, rfl, rfl⟩ := h
      have hcs := allP_some hps
      have hlen : ps.length = c.length - i := by
        have := congrArg List.length hcs
        simp only [List.length_drop, List.length_map] at this
        omega
      cases hv with
      | ptr _ _ _ hk hs =>
      obtain ⟨l, hm, rfl⟩ := hs
      refine ⟨?_, fun h => by cases h⟩
      rcases R.blk k c (hget_mut hg) with ⟨_, hn⟩ | ⟨l', cur, e, hm2, hB, hh, hs1, hs3, hs2, hcells⟩
      · rw [hm] at hn; cases hn
      · rw [hm] at hm2; cases hm2
        refine .ptr _ _ _ (fun j => cur.getD (l.o + (i + j)) undef) ⟨.inr hB, (Array.getElem?_eq_some_iff.1 hh).1⟩ (fun j hj => ?_) fun j hj => ?_
        · rw [Nat.add_assoc]; exact cell_of hh (by omega)
        · have := hcells (i + j) (by omega)
          have e : c[i + j]'(by omega) = .p ps[j] := by
            have h3 : (c.drop i)[j]? = (ps.map AV.p)[j]? := by rw [hcs]
            rw [List.getElem?_drop, List.getElem?_eq_getElem (by omega), List.getElem?_map, List.getElem?_eq_getElem hj] at h3
            simpa using h3
          rw [e] at this
          exact this.p_inv.mono (fun b hb => ok_okE b hb)
    · cases h
    · cases h
    · cases h
    · cases h
  · cases h
theorem peekList_val {f : AV → Option (Prop × PV × Bool)} {H : Heap} {R0 : AV → Value → Prop} (hf : ∀ {x v p pv b}, R0 x v → f x = some (p, pv, b) → p → Peeks C m H w pv b v) :
    ∀ (l : List AV) (vs : Nat → Value) {p : Prop} {ps : List PV} {b : Bool}, (∀ c (h : c < l.length), R0 l[c] (vs c)) → peekList f l = some (p, ps, b) → p → ps.length = l.length ∧ (∀ c (h : c < ps.length), Reads (okE C w) w ps[c] (vs c)) ∧ (b = true → ∀ c (h : c < ps.length), Reads (OK C m H w) w ps[c] (vs c))
  | [], vs, p, ps, b, _, h, _ => by
    simp only [peekList, Option.some.injEq, Prod.mk.injEq] at h
    obtain ⟨_, rfl, _⟩ := h
    exact ⟨rfl, fun c h => by simp at h, fun _ c h => by simp at h⟩
  | x :: r, vs, p, ps, b, hr, h, hp => by
    simp only [peekList] at h
    split at h <;> simp only [Option.some.injEq, Prod.mk.injEq, reduceCtorEq] at h
    rename_i p1 v1 b1 q1 l1 c1 h1 h2
    obtain ⟨rfl, rfl, rfl⟩ := h
    have a1 := hf (hr 0 (by simp)) h1 hp.1
    obtain ⟨e1, e2, e3⟩ := peekList_val (R0 := R0) (f := f) (fun h1 h2 h3 => hf h1 h2 h3) r (fun c => vs (c + 1)) (fun c hc => by have := hr (c + 1) (by simpa using hc); simpa using this) h2 hp.2
    refine ⟨by simp [e1], fun c hc => ?_, fun hb c hc => ?_⟩
    · cases c with
      | zero => exact a1.1
      | succ c => exact e2 c (by simpa using hc)
    · rw [Bool.and_eq_true] at hb
      cases c with
      | zero => exact a1.2 hb.1
      | succ c => exact e3 hb.2 c (by simpa using hc)
theorem peekG_val (R : Rel C m s tmps w) {x : AV} {v : Value} (hv : AVal (Reads (OK C m s.H w) w) m s.H x v) {p : Prop} {pv : PV} {b : Bool} (h : peekG s.H x = some (p, pv, b)) (hp : p) : Peeks C m s.H w pv b v := by
  unfold peekG at h
  split at h
  · rename_i l
    split at h <;> simp only [Option.some.injEq, Prod.mk.injEq, reduceCtorEq] at h
    rename_i p1 ps b1 hl
    obtain ⟨rfl, rfl, rfl⟩ := h
    cases hv with
    | agg _ vs hsz hr =>
      obtain ⟨e1, e2, e3⟩ := peekList_val (fun {x v p pv b} (hx : AVal (Reads (OK C m s.H w) w) m s.H x v) h hp => peekS_val R hx h hp) l (fun c => vs.getD c undef) hr hl hp
      exact ⟨.agg _ _ (by omega) e2, fun hb => .agg _ _ (by omega) (e3 hb)⟩
  · rename_i f l
    split at h <;> simp only [Option.some.injEq, Prod.mk.injEq, reduceCtorEq] at h
    rename_i p1 ps b1 hl
    obtain ⟨rfl, rfl, rfl⟩ := h
    cases hv with
    | cl _ _ vs hsz hr =>
      obtain ⟨e1, e2, e3⟩ := peekList_val (fun {x v p pv b} (hx : AVal (Reads (OK C m s.H w) w) m s.H x v) h hp => peekS_val R hx h hp) l (fun c => vs.getD c undef) hr hl hp
      exact ⟨.fn _ _ _ (by omega) e2, fun hb => .fn _ _ _ (by omega) (e3 hb)⟩
  · exact peekS_val R hv h hp
theorem peekA_val (R : Rel C m s tmps w) {x : AV} {v : Value} (hv : AVal (Reads (OK C m s.H w) w) m s.H x v) {p : Prop} {pv : PV} {b : Bool} (h : peekA s.H x = some (p, pv, b)) (hp : p) : Peeks C m s.H w pv b v := by
  unfold peekA at h
  split at h
  · rename_i l
    split at h <;> simp only [Option.some.injEq, Prod.mk.injEq, reduceCtorEq] at h
    rename_i p1 ps b1 hl
    obtain ⟨rfl, rfl, rfl⟩ := h
    cases hv with
    | tup _ vs hsz hr =>
      obtain ⟨e1, e2, e3⟩ := peekList_val (fun {x v p pv b} (hx : AVal (Reads (OK C m s.H w) w) m s.H x v) h hp => peekG_val R hx h hp) l (fun c => vs.getD c undef) hr hl hp
      exact ⟨.tup _ _ (by omega) e2, fun hb => .tup _ _ (by omega) (e3 hb)⟩
  · exact peekG_val R hv h hp
theorem flatOnly_reads {ok ok' : Nat → Prop} {w' : World} {p : PV} {v : Value} (h : Reads ok w p v) (hf : p.flatOnly = true) : Reads ok' w' p v := by
  have sc : ∀ {p : PV} {v : Value}, Reads ok w p v → (match p with | .int _ _ => true | .bool _ => true | .str _ => true | _ => false) = true → Reads ok' w' p v := by
    intro p v h hf
    cases h <;> simp at hf
    · exact .int _ _
    · exact .bool _
    · exact .str _
  have ag : ∀ {l : List PV} {vs : Array Value}, Reads ok w (.agg l) (.agg vs) → (l.all fun | .int _ _ => true | .bool _ => true | .str _ => true | _ => false) = true → Reads ok' w' (.agg l) (.agg vs) := by
    intro l vs h hf
    cases h with
    | agg _ _ hl hr =>
      refine .agg _ _ hl fun c hc => sc (hr c hc) ?_
      have := (List.all_eq_true.1 hf) l[c] (List.getElem_mem hc)
      exact this
  cases h with
  | int k i => exact .int _ _
  | bool b => exact .bool _
  | str s => exact .str _
  | nil => exact .nil
  | agg l vs hl hr => exact ag (.agg l vs hl hr) hf
  | tup l vs hl hr =>
    refine .tup _ _ hl fun c hc => ?_
    have h1 := (List.all_eq_true.1 hf) l[c] (List.getElem_mem hc)
    have h2 := hr c hc
    generalize l[c] = x at h1 h2 ⊢
    generalize vs.getD c undef = v at h2 ⊢
    cases h2 with
    | int k i => exact .int _ _
    | bool b => exact .bool _
    | str s => exact .str _
    | agg l vs hl hr => exact ag (.agg l vs hl hr) h1
    | _ => simp at h1
  | _ => simp [PV.flatOnly] at hf
def Fun (P : Program) (g : FuncId) : Prop := ∃ fn, P.funcs[g]? = some fn ∧ (fn.name == "runtime.NumGoroutine") = false ∧ fn.body.isNone = false
def FnC (P : Program) (f : FuncId) (args : List PV) (r : PV) : Prop :=
  Fun P f ∧ ∀ (okA : Nat → Prop) (w : World) (vals : Array Value), LaidW okA w → vals.size = args.length → (∀ i (h : i < args.length), Reads okA w args[i] (vals.getD i undef)) →
    Calls P f vals w fun e w' => ∃ v, e = .returned v ∧ Below w.heap.size w w' ∧ Reads (okN okA w w') w' r v
def callA (s : St) (fo : Operand) (args : Array Operand) : Option (FuncId × List PV × Prop × Bool) :=
  match s.ev fo with
  | .p (.fn g cap) =>
    match peekList (peekG s.H) (args.toList.map s.ev) with
    | some (p, pvs, b) => some (g, pvs ++ cap, p, b)
    | none => none
  | _ => none
theorem callA_congr {s s2 : St} {fo : Operand} {args : Array Operand} {ts : Array TypeId} (h : ∀ x ∈ (Op.call { callee := .value fo, args := args, argTypes := ts }).operands, s2.ev x = s.ev x) (hH : s2.H = s.H) : callA s2 fo args = callA s fo args := by
  simp only [Op.operands, Call.operands] at h
  have h1 : s2.ev fo = s.ev fo := h fo (by simp)
  have h2 : args.toList.map s2.ev = args.toList.map s.ev := List.map_congr_left fun x hx => h x (by simp; right; simpa using hx)
  unfold callA
  rw [h1, h2, hH]
theorem call_does {o : Oper} {fo : Operand} {args : Array Operand} {ts : Array TypeId} (ho : o.op = .call { callee := .value fo, args := args, argTypes := ts }) {g : FuncId} {avs : List PV} {p : Prop} {b : Bool} {r : PV}
    (hc : FnC P g avs r) (hcall : callA s fo args = some (g, avs, p, b)) (hp : p) (hb : (b || r.flatOnly) = true) : DoesW P o s (.p r) s.H := by
  intro C m a w K Q R hK
  unfold callA at hcall
  split at hcall
  · rename_i g' cap hf
    split at hcall <;> simp only [Option.some.injEq, Prod.mk.injEq, reduceCtorEq] at hcall
    rename_i p' pvs b' hpl
    obtain ⟨rfl, rfl, rfl, rfl⟩ := hcall
    have hfv := R.ev fo
    rw [hf] at hfv
    generalize hfe : a.eval fo = fv at hfv
    have hfv := hfv.p_inv
    cases hfv with
    | fn _ _ vs hcl hcr =>
      obtain ⟨⟨fn, hfn, hnm, hbd⟩, hcalls⟩ := hc
      obtain ⟨e1, e2, e3⟩ := peekList_val (C := C) (m := m) (w := w) (H := s.H) (fun {x v p pv b} (hx : AVal (Reads (OK C m s.H w) w) m s.H x v) h hp => peekG_val R hx h hp) (args.toList.map s.ev) (fun c => (args.toList.map a.eval).getD c undef) (fun c hc => by
        simp only [List.length_map] at hc
        have := R.ev (args.toList[c])
        simpa [List.getD, List.getElem?_map, List.getElem?_eq_getElem hc] using this) hpl hp
      simp only [List.length_map] at e1
      have hvals : ∀ i (h : i < (pvs ++ cap).length), (args.map a.eval ++ vs).getD i undef = if i < pvs.length then (args.toList.map a.eval).getD i undef else vs.getD (i - pvs.length) undef := by
        intro i hi
        simp only [Array.getD_eq_getD_getElem?]
        by_cases hip : i < pvs.length
        · rw [if_pos hip, Array.getElem?_append_left (by simp at e1 ⊢; omega)]
          simp [List.getD]
        · rw [if_neg hip, Array.getElem?_append_right (by simp at e1 ⊢; omega)]
          congr 2
          simp at e1 ⊢; omega
      have hrun : (execOp a.eval o).run P w = .ok (.enter g' (args.map a.eval ++ vs)) w := by
        have hnm' : ¬ fn.name = "runtime.NumGoroutine" := by simpa using hnm
        have hbd' : ¬ fn.body = none := by intro e; rw [e] at hbd; simp at hbd
        simp [execOp, ho, resolve, hfe, Deferred.ofValue, invoke, callFunc, hfn, hnm', hbd']
      refine opR_of_wp (by rw [ho]; rfl) ?_
      unfold Oper.wp
      rw [hrun]
      simp only [Oper.upon]
      have hsz : (args.map a.eval ++ vs).size = (pvs ++ cap).length := by simp at e1 ⊢; omega
      have done : ∀ (okA : Nat → Prop), LaidW okA w → (∀ i (h : i < (pvs ++ cap).length), Reads okA w (pvs ++ cap)[i] ((args.map a.eval ++ vs).getD i undef)) →
          (∀ w' v, Below w.heap.size w w' → Reads (okN okA w w') w' r v → Reads (OK C m s.H w') w' r v) → Calls P g' (args.map a.eval ++ vs) w fun
            | .returned v, w'' => K (a.put o.dst v) w''
            | .panicked chain, w'' => Q (.panic chain) a w''
            | .outgrown, _ => LetsOut Q := by
        intro okA h1 h2 h3
        refine (hcalls okA w _ h1 hsz h2).mono fun e w' ⟨v, he, hbl, hv⟩ => ?_
        subst he
        exact hK v m w' (R.later hbl) (.p _ _ (h3 w' v hbl hv))
      cases b' with
      | true =>
        refine done (OK C m s.H w) R.laidOK (fun i hi => ?_) fun w' v hbl hv => ?_
        · rw [hvals i hi]
          by_cases hip : i < pvs.length
          · rw [if_pos hip, List.getElem_append_left hip]; exact e3 rfl i hip
          · rw [if_neg hip, List.getElem_append_right (by omega)]; exact hcr _ (by simp at hi; omega)
        · refine hv.mono fun b hb => ?_
          obtain ⟨hb1, hb2⟩ := hb
          rcases hb1 with hb1 | hb1
          · exact Rel.okExt hbl b hb1
          · refine ⟨.inr (R.base _ hb1), hb2, fun k c l hk hl e' => ?_⟩
            rcases R.blk k c hk with ⟨_, hn⟩ | ⟨l2, cur, e2, hl2, _, hg, _⟩
            · rw [hl] at hn; cases hn
            · rw [hl] at hl2; cases hl2
              have := (Array.getElem?_eq_some_iff.1 hg).1
              have hb1 : w.heap.size ≤ b := hb1
              omega
      | false =>
        have hfl : r.flatOnly = true := by simpa using hb
        refine done (fun b => b < w.heap.size) R.laidLt (fun i hi => ?_) fun w' v hbl hv => flatOnly_reads hv hfl
        rw [hvals i hi]
        by_cases hip : i < pvs.length
        · rw [if_pos hip, List.getElem_append_left hip]; exact (e2 i hip).mono fun b hb => hb.2
        · rw [if_neg hip, List.getElem_append_right (by omega)]; exact (hcr _ (by simp at hi; omega)).mono fun b hb => hb.2.1
  · cases hcall
theorem call_loc {o : Oper} {fo : Operand} {args : Array Operand} {ts : Array TypeId} (ho : o.op = .call { callee := .value fo, args := args, argTypes := ts }) {g : FuncId} {avs : List PV} {p : Prop} {b : Bool} {r : PV}
    (hc : FnC P g avs r) (hcall : callA s fo args = some (g, avs, p, b)) (hp : p) (hb : (b || r.flatOnly) = true) : Loc1 P o s (.p r) s.H := by
  refine ⟨fun s2 hn ha hH => ?_, fun hf => ?_, fun _ => rfl⟩
  · have := callA_congr (ts := ts) (s := s) (s2 := s2) (fo := fo) (args := args) (by rw [← ho]; exact ha) hH
    rw [hcall] at this
    rw [← hH]
    exact call_does ho hc this hp hb
  · rw [ho] at hf; simp [isT] at hf
theorem runs_call {draw : Bool} {all : Array Oper} {rest : List Oper} {K : St → Prop} {dst : Option Tmp} {ty : TypeId} {pos : String} {aft : Array Edge} {gd : Option (Nat × Bool)} {fo : Operand} {args : Array Operand} {ts : Array TypeId} {g : FuncId} {avs : List PV} {p : Prop} {b : Bool} {r : PV}
    (hc : FnC P g avs r) (hg : guardA all s { dst := dst, op := .call { callee := .value fo, args := args, argTypes := ts }, type := ty, pos := pos, after := aft, guard := gd } = some true)
    (hcall : callA s fo args = some (g, avs, p, b)) (hb : (b || r.flatOnly) = true) (hd : dstOk s dst) (hp : p) (h : Runs P draw all rest K (s.put dst (.p r))) :
    Runs P draw all ({ dst := dst, op := .call { callee := .value fo, args := args, argTypes := ts }, type := ty, pos := pos, after := aft, guard := gd } :: rest) K s := by
  obtain ⟨s', hr, hK⟩ := h
  exact ⟨s', .cons (.op s (.p r) s.H hg (dstOk_spec hd) (call_does rfl hc hcall hp hb) fun _ => call_loc rfl hc hcall hp hb) hr, hK⟩
def ent : Nat → List PV → List (Nat × AV)
  | _, [] => []
  | k, a :: r => (k, .p a) :: ent (k + 1) r
def entry (n : Nat) (args : List PV) : St := ⟨n, ent 0 args, []⟩
def rvA (T : TypeId → Option TI) (s : St) : ResultVar → Option (Prop × AV)
  | .tmp t => some (True, s.get t)
  | .cell x t =>
    match T t with
    | some ti => match loadA ti s.H (s.get x) with | some r => some (r.vc, r.av) | none => none
    | none => none
def rvsA (T : TypeId → Option TI) (s : St) : List ResultVar → Option (Prop × List AV)
  | [] => some (True, [])
  | x :: r =>
    match rvA T s x, rvsA T s r with
    | some (p, v), some (q, l) => some (p ∧ q, v :: l)
    | _, _ => none
def mkTup (l : List AV) : AV :=
  match l with
  | [x] => x
  | l => match allP l with | some ps => .p (.tup ps) | none => .tup l
def PV.norm0 : PV → PV
  | .nil => .list []
  | .nn l => .list l
  | .nz => .list []
  | p => p
def PV.norm1 : PV → PV
  | .agg l => .agg (l.map PV.norm0)
  | p => p.norm0
def PV.norm : PV → PV
  | .tup l => .tup (l.map PV.norm1)
  | p => p.norm1
theorem norm0_reads {ok : Nat → Prop} {pv : PV} {v : Value} (h : Reads ok w pv v) : Reads ok w pv.norm0 v := by
  unfold PV.norm0
  split
  · exact h.nil_list
  · exact h.nn_list
  · cases h with
    | nz a cap => exact .list0 _ _ fun h => by cases h
  · exact h
theorem norm1_reads {ok : Nat → Prop} {pv : PV} {v : Value} (h : Reads ok w pv v) : Reads ok w pv.norm1 v := by
  unfold PV.norm1
  split
  · cases h with
    | agg l vs hl hr =>
      refine .agg _ _ (by simpa using hl) fun c hc => ?_
      rw [List.getElem_map]
      exact norm0_reads (hr c (by simpa using hc))
  · exact norm0_reads h
theorem norm_reads {ok : Nat → Prop} {pv : PV} {v : Value} (h : Reads ok w pv v) : Reads ok w pv.norm v := by
  unfold PV.norm
  split
  · cases h with
    | tup l vs hl hr =>
      refine .tup _ _ (by simpa using hl) fun c hc => ?_
      rw [List.getElem_map]
      exact norm1_reads (hr c (by simpa using hc))
  · exact norm1_reads h
def endA (T : TypeId → Option TI) (rs : List ResultVar) (r : PV) (s : St) : Prop :=
  match rvsA T s rs with
  | some (p, l) => match peekA s.H (mkTup l) with | some (q, pv, _) => p ∧ q ∧ pv.norm = r | none => False
  | none => False
def Post (T : TypeId → Option TI) (rs : List ResultVar) (r : PV) : Exit → St → Prop
  | .normal, s => endA T rs r s
  | .ret, s => endA T rs r s
  | _, _ => False
theorem ent_lk : ∀ (l : List PV) (k t : Nat), lk (ent k l) t = if k ≤ t then (match l[t - k]? with | some a => .p a | none => .dead) else .dead
  | [], k, t => by simp [ent, lk]
  | a :: r, k, t => by
    simp only [ent, lk]
    by_cases h : k = t
    · subst h; simp
    · rw [show (k == t) = false by simpa using h]
      simp only [cond_false]
      rw [ent_lk r (k + 1) t]
      by_cases hk : k ≤ t
      · rw [if_pos (by omega), if_pos hk, show t - k = (t - (k + 1)) + 1 by omega]; rfl
      · rw [if_neg (by omega), if_neg hk]
def rvRun (tmps : Array Value) : ResultVar → Sem Value
  | .tmp t => pure (tmps.getD t undef)
  | .cell a t => do loadVar t (← asAddr (tmps.getD a undef))
theorem results_eq (fn : Func) (tmps : Array Value) : results fn tmps = (do
    let vs ← fn.results.mapM (rvRun tmps)
    pure (if h : vs.size = 1 then vs[0] else .tuple vs)) := by
  unfold results
  have : (fun x => match x with
    | .tmp t => pure (tmps.getD t undef)
    | .cell a t => do loadVar t (← asAddr (tmps.getD a undef)) : ResultVar → Sem Value) = rvRun tmps := by
    funext x; cases x <;> rfl
  rw [← this]
  rfl
theorem rvA_run (hT : ∀ t ti, T t = some ti → tiOf P t = some ti) {a : Act} (R : Rel C m s a.tmps w) {x : ResultVar} {p : Prop} {av : AV} (h : rvA T s x = some (p, av)) (hp : p) :
    ∃ v, (rvRun a.tmps x).run P w = .ok v w ∧ AVal (Reads (OK C m s.H w) w) m s.H av v := by
  cases x with
  | tmp t =>
    simp only [rvA, Option.some.injEq, Prod.mk.injEq] at h
    obtain ⟨_, rfl⟩ := h
    exact ⟨_, rfl, R.slot t⟩
  | cell b t =>
    simp only [rvA] at h
    split at h
    · rename_i ti ht
      split at h <;> simp only [Option.some.injEq, Prod.mk.injEq, reduceCtorEq] at h
      rename_i r hr
      obtain ⟨rfl, rfl⟩ := h
      obtain ⟨_, v, hrun, hv⟩ := loadA_does hT R (o := { dst := none, op := .load t (.tmp b), type := 0, pos := "", after := #[], guard := none }) (x := .tmp b) rfl ht (by simpa [St.ev] using hr) hp
      refine ⟨v, ?_, hv⟩
      simp only [execOp, Instr.loadAt, Act.eval, Sem.run_bind] at hrun
      cases hpv : a.tmps.getD b undef with
      | pointer ad =>
        rw [hpv] at hrun
        cases ad with
        | some ad =>
          simp only [Instr.sureAddr, Sem.run_pure, Result.andThen_ok] at hrun
          simp only [rvRun, hpv, asAddr, Sem.run_bind, Sem.run_pure, Result.andThen_ok]
          cases hl : (loadVar t ad).run P w <;> rw [hl] at hrun <;> simp [Result.andThen] at hrun
          rw [hrun.1, hrun.2]
        | none => simp [Instr.sureAddr] at hrun
      | _ => rw [hpv] at hrun; simp [Instr.sureAddr] at hrun
    · cases h
theorem rvsA_run (hT : ∀ t ti, T t = some ti → tiOf P t = some ti) {a : Act} (R : Rel C m s a.tmps w) : ∀ (l : List ResultVar) {p : Prop} {avs : List AV}, rvsA T s l = some (p, avs) → p →
    ∃ vs : List Value, (l.mapM (rvRun a.tmps)).run P w = .ok vs w ∧ vs.length = avs.length ∧ ∀ c (h : c < avs.length), AVal (Reads (OK C m s.H w) w) m s.H avs[c] (vs.getD c undef)
  | [], p, avs, h, _ => by
    simp only [rvsA, Option.some.injEq, Prod.mk.injEq] at h
    obtain ⟨_, rfl⟩ := h
    exact ⟨[], rfl, rfl, fun c h => by simp at h⟩
  | x :: r, p, avs, h, hp => by
    simp only [rvsA] at h
    split at h <;> simp only [Option.some.injEq, Prod.mk.injEq, reduceCtorEq] at h
    rename_i p1 v1 q1 l1 h1 h2
    obtain ⟨rfl, rfl⟩ := h
    obtain ⟨v, e1, e2⟩ := rvA_run hT R h1 hp.1
    obtain ⟨vs, f1, f2, f3⟩ := rvsA_run hT R r h2 hp.2
    refine ⟨v :: vs, ?_, by simp [f2], fun c hc => ?_⟩
    · rw [List.mapM_cons]
      simp only [Sem.run_bind, e1, Result.andThen_ok, f1, Sem.run_pure]
    · cases c with
      | zero => exact e2
      | succ c => simpa [List.getD] using f3 c (by simpa using hc)
theorem mkTup_val {ok : Nat → Prop} {H : Heap} {l : List AV} {vs : List Value} (hl : vs.length = l.length) (hr : ∀ c (h : c < l.length), AVal (Reads ok w) m H l[c] (vs.getD c undef)) :
    AVal (Reads ok w) m H (mkTup l) (if h : vs.toArray.size = 1 then vs.toArray[0] else .tuple vs.toArray) := by
  unfold mkTup
  split
  · rename_i x
    match vs, hl with
    | [v], _ => simpa using hr 0 (by simp)
  · rename_i hne
    have h1 : ¬ vs.toArray.size = 1 := by
      intro e
      have : l.length = 1 := by simp at e; omega
      obtain ⟨x, rfl⟩ := List.length_eq_one_iff.1 this
      exact hne x rfl
    rw [dif_neg h1]
    have hr' : ∀ c (h : c < l.length), AVal (Reads ok w) m H l[c] (vs.toArray.getD c undef) := by
      intro c hc
      have := hr c hc
      simpa [List.getD, Array.getD_eq_getD_getElem?] using this
    split
    · rename_i ps hps
      have e := allP_some hps
      subst e
      refine .p _ _ (.tup _ _ (by simpa using hl) fun c hc => ?_)
      have := hr' c (by simpa using hc)
      simp only [List.getElem_map] at this
      exact this.p_inv
    · exact .tup _ _ (by simpa using hl) hr'
theorem fnc_of (hT : ∀ t ti, T t = some ti → tiOf P t = some ti) {f : FuncId} {fn : Func} {c : Code} {args : List PV} {r : PV} (hf : P.funcs[f]? = some fn) (hb : fn.body = some c) (hnm : (fn.name == "runtime.NumGoroutine") = false) (hn : args.length ≤ fn.ntmps)
    (h : Holds P c (Post T fn.results.toList r) (entry fn.ntmps args)) : FnC P f args r := by
  refine ⟨⟨fn, hf, hnm, by rw [hb]; rfl⟩, fun okA w vals hok hsz hrd => calls_of_wp hf hb (wpR_none.1 ?_)⟩
  have hslot : ∀ t, (vals ++ Array.replicate (fn.ntmps - vals.size) undef).getD t undef = if t < vals.size then vals.getD t undef else undef := by
    intro t
    simp only [Array.getD_eq_getD_getElem?]
    by_cases ht : t < vals.size
    · rw [if_pos ht, Array.getElem?_append_left ht]
    · rw [if_neg ht, Array.getElem?_append_right (by omega), Array.getElem?_replicate]
      split <;> rfl
  have R : Rel (fresh okA w) (fun _ => none) (entry fn.ntmps args) (vals ++ Array.replicate (fn.ntmps - vals.size) undef) w := by
    have hOK : ∀ b, okA b → OK (fresh okA w) (fun _ => none) [] w b := fun b hb => ⟨.inl hb, hok.1 b hb, fun k c l h => by simp at h⟩
    refine ⟨fun g l hg => (hok.2 g l hg).mono hOK, BelowP.refl _ _, fun _ h => h, by simp [entry]; omega, fun k k' c c' l l' h => by simp [entry] at h, fun k c h => by simp [entry] at h, fun k c h => by simp [entry] at h, fun t => ?_, fun k kk d v h => by simp [entry] at h, fun k k' kk d v kk' d' v' l l' h => by simp [entry] at h, fun k i j h => by simp [entry] at h, fun k r h => by simp [entry] at h, fun k k' r r' l l' h => by simp [entry] at h⟩
    rw [hslot]
    unfold St.get entry
    simp only
    rw [ent_lk]
    simp only [Nat.zero_le, if_true, Nat.sub_zero]
    by_cases ht : t < args.length
    · rw [List.getElem?_eq_getElem ht, if_pos (by omega)]
      exact .p _ _ ((hrd t ht).mono hOK)
    · rw [List.getElem?_eq_none (by omega)]
      exact .dead _
  refine wpR_mono (h none [] _ _ { tmps := vals ++ Array.replicate (fn.ntmps - vals.size) undef, defers := [] } w R rfl) fun e a' w' ⟨s', m', h1, h2, h3⟩ => ?_
  have fini : endA T fn.results.toList r s' → a'.defers = [] ∧ ∃ v, (results fn a'.tmps).run P w' = .ok v w' ∧ ∃ v_1, Ending.returned v = .returned v_1 ∧ Below w.heap.size w w' ∧ Reads (okN okA w w') w' r v_1 := by
    intro he
    unfold endA at he
    split at he
    · rename_i p l hl
      split at he
      · rename_i q pv b hpk
        obtain ⟨hp, hq, rfl⟩ := he
        obtain ⟨vs, e1, e2, e3⟩ := rvsA_run hT h2 fn.results.toList hl hp
        have hv := mkTup_val (w := w') e2 e3
        have hpv := peekA_val h2 hv hpk hq
        refine ⟨h3, _, ?_, _, rfl, h2.below.below (fun _ h => h), norm_reads hpv.1⟩
        rw [results_eq, Array.mapM_eq_mapM_toList]
        simp only [Sem.run_bind, Sem.run_map]
        rw [e1]
        simp only [Result.andThen_ok]
        rfl
      · exact he.elim
    · exact he.elim
  cases e with
  | normal => exact fini h1
  | ret => exact fini h1
  | _ => exact h1.elim
end
end Go.Pv
