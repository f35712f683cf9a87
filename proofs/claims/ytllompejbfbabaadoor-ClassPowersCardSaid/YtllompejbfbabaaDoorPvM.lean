/-
  A region that draws its order: whatever the order, the state behind it is that of the text's order. Conditions: none; a library text.
-/
import Derived.Test.YtllompejbfbabaaDoorPvL
set_option linter.all false
namespace Go.Pv
open Go.RowKit

theorem Rel.congr {C : Ctx} {m : Map} {s s2 : St} {tmps : Array Value} {w : World} (h : Rel C m s tmps w) (h1 : ∀ t, s2.get t = s.get t) (h2 : s2.H = s.H) (h3 : s2.n = s.n) : Rel C m s2 tmps w := by
  refine ⟨h.laid, h.below, h.base, by rw [h3]; exact h.size, ?_, ?_, ?_, fun t => ?_⟩
  · rw [h2]; exact h.inj
  · rw [h2]; exact h.blk
  · rw [h2]; exact h.fro
  · rw [h1, h2]; exact h.slot t

section
variable {P : Program} {ops : Array Oper}

/-- What one operation comes to: what it yields; the blocks, if it turns them. -/
structure Out where
  av : AV
  H : Heap

/-- The state behind those of the operations that are in D, in the text's order. -/
def sD (ops : Array Oper) (out : Nat → Out) (s : St) (D : Nat → Bool) : Nat → St
  | 0 => s
  | k + 1 => if D k then ({ sD ops out s D k with H := if isW (opAt ops k).op then (out k).H else (sD ops out s D k).H } : St).put (opAt ops k).dst (out k).av else sD ops out s D k

theorem get_put (s : St) (d : Option Nat) (x : AV) (t : Nat) : (s.put d x).get t = if d = some t then x else s.get t := by
  cases d with
  | none => simp [St.put]
  | some d =>
    by_cases h : d = t
    · subst h; simp [St.put, St.get, lk]
    · simp [St.put, St.get, lk, h, show (d == t) = false by simpa using h]

theorem sD_n (out : Nat → Out) (s : St) (D : Nat → Bool) : ∀ k, (sD ops out s D k).n = s.n
  | 0 => rfl
  | k + 1 => by
    simp only [sD]
    split
    · rw [St.put_n]; exact sD_n out s D k
    · exact sD_n out s D k

theorem sD_get (out : Nat → Out) (s : St) (D : Nat → Bool) (k t : Nat) : (sD ops out s D (k + 1)).get t = if D k = true ∧ (opAt ops k).dst = some t then (out k).av else (sD ops out s D k).get t := by
  simp only [sD]
  by_cases h : D k = true
  · rw [if_pos h, get_put]
    by_cases hd : (opAt ops k).dst = some t
    · have hr : D k = true ∧ (opAt ops k).dst = some t := ⟨h, hd⟩
      rw [if_pos hd, if_pos hr]
    · have hr : ¬ (D k = true ∧ (opAt ops k).dst = some t) := fun hh => hd hh.2
      rw [if_neg hd, if_neg hr]; rfl
  · have hr : ¬ (D k = true ∧ (opAt ops k).dst = some t) := fun hh => h hh.1
    rw [if_neg h, if_neg hr]

theorem sD_H (out : Nat → Out) (s : St) (D : Nat → Bool) (k : Nat) : (sD ops out s D (k + 1)).H = if D k = true ∧ isW (opAt ops k).op = true then (out k).H else (sD ops out s D k).H := by
  simp only [sD]
  by_cases h : D k = true
  · rw [if_pos h, St.put_H]
    by_cases hd : isW (opAt ops k).op = true
    · have hr : D k = true ∧ isW (opAt ops k).op = true := ⟨h, hd⟩
      rw [if_pos hr]; simp only [hd, if_true]
    · have hr : ¬ (D k = true ∧ isW (opAt ops k).op = true) := fun hh => hd hh.2
      rw [if_neg hr]; simp only [hd, Bool.false_eq_true, if_false]
  · have hr : ¬ (D k = true ∧ isW (opAt ops k).op = true) := fun hh => h hh.1
    rw [if_neg h, if_neg hr]

/-- Nobody from k on writes the slot. -/
theorem sD_get_stay (out : Nat → Out) (s : St) (D : Nat → Bool) (t : Nat) : ∀ k n, k ≤ n → (∀ i, k ≤ i → i < n → D i = true → (opAt ops i).dst ≠ some t) → (sD ops out s D n).get t = (sD ops out s D k).get t := by
  intro k n hkn h
  induction n with
  | zero => obtain rfl : k = 0 := by omega
            rfl
  | succ n ih =>
    by_cases hk : k = n + 1
    · rw [hk]
    · rw [sD_get, if_neg (fun hh => h n (by omega) (by omega) hh.1 hh.2)]
      exact ih (by omega) fun i h1 h2 => h i h1 (by omega)

theorem sD_H_stay (out : Nat → Out) (s : St) (D : Nat → Bool) : ∀ k n, k ≤ n → (∀ i, k ≤ i → i < n → D i = true → isW (opAt ops i).op = false) → (sD ops out s D n).H = (sD ops out s D k).H := by
  intro k n hkn h
  induction n with
  | zero => obtain rfl : k = 0 := by omega
            rfl
  | succ n ih =>
    by_cases hk : k = n + 1
    · rw [hk]
    · rw [sD_H, if_neg (fun hh => by have := h n (by omega) (by omega) hh.1; rw [this] at hh; simp at hh)]
      exact ih (by omega) fun i h1 h2 => h i h1 (by omega)

/-- Two sets that agree on who writes the slot below k. -/
theorem sD_get_same (out : Nat → Out) (s : St) (D D' : Nat → Bool) (t : Nat) : ∀ k, (∀ i, i < k → (opAt ops i).dst = some t → D i = D' i) → (sD ops out s D k).get t = (sD ops out s D' k).get t := by
  intro k h
  induction k with
  | zero => rfl
  | succ k ih =>
    rw [sD_get, sD_get, ih fun i hi => h i (by omega)]
    by_cases hd : (opAt ops k).dst = some t
    · rw [h k (by omega) hd]
    · rw [if_neg (fun hh => hd hh.2), if_neg (fun hh => hd hh.2)]

theorem sD_H_same (out : Nat → Out) (s : St) (D D' : Nat → Bool) : ∀ k, (∀ i, i < k → isW (opAt ops i).op = true → D i = D' i) → (sD ops out s D k).H = (sD ops out s D' k).H := by
  intro k h
  induction k with
  | zero => rfl
  | succ k ih =>
    rw [sD_H, sD_H, ih fun i hi => h i (by omega)]
    by_cases hd : isW (opAt ops k).op = true
    · rw [h k (by omega) hd]
    · rw [if_neg (fun hh => hd hh.2), if_neg (fun hh => hd hh.2)]

/-- What an operation comes to, seen from the state ahead of it in the text's order. -/
structure Fact (P : Program) (ops : Array Oper) (out : Nat → Out) (s : St) (j : Nat) (o : Oper) : Prop where
  dst : ∀ t, o.dst = some t → t < s.n
  how : (guardA ops (sD ops out s (fun _ => true) j) o = some false ∧ (out j).av = .dead ∧ isW o.op = false) ∨
    (guardA ops (sD ops out s (fun _ => true) j) o = some true ∧ Loc1 P o (sD ops out s (fun _ => true) j) (out j).av (out j).H)

/-- The facts, out of a run in the text's order. -/
theorem Run1.facts : ∀ (l : List Oper) (k : Nat) (pre : Nat → Out) (s s1 s' : St), (∀ i, l[i]? = ops[k + i]?) → k + l.length = ops.size → (∀ t, s1.get t = (sD ops pre s (fun _ => true) k).get t) → s1.H = (sD ops pre s (fun _ => true) k).H → s1.n = s.n →
    (∀ o ∈ l, o.guard ≠ none → isW o.op = false) →
    Run1 P true ops l s1 s' → ∃ out : Nat → Out, (∀ i, i < k → out i = pre i) ∧ (∀ i o, k ≤ i → ops[i]? = some o → Fact P ops out s i o) ∧ (∀ t, s'.get t = (sD ops out s (fun _ => true) ops.size).get t) ∧ s'.H = (sD ops out s (fun _ => true) ops.size).H ∧ s'.n = s.n
  | [], k, pre, s, s1, s', hl, hk, hg, hH, hn, _, hr => by
    cases hr
    simp at hk
    subst hk
    refine ⟨pre, fun _ _ => rfl, fun i o hi ho => ?_, hg, hH, hn⟩
    have := (Array.getElem?_eq_some_iff.1 ho).1
    omega
  | o :: r, k, pre, s, s1, s', hl, hk, hg, hH, hn, hgw, hr => by
    have ho : ops[k]? = some o := by have := hl 0; simpa using this.symm
    have hod : opAt ops k = o := opAt_of ho
    have sDpre : ∀ (x : Out) (j : Nat), j ≤ k → sD ops (fun i => if i = k then x else pre i) s (fun _ => true) j = sD ops pre s (fun _ => true) j := by
      intro x j hj
      induction j with
      | zero => rfl
      | succ j ih =>
        simp only [sD]
        rw [ih (by omega), if_neg (by omega : ¬ j = k)]
    have hgs : ∀ b, guardA ops s1 o = some b → guardA ops (sD ops pre s (fun _ => true) k) o = some b := by
      intro b h
      unfold guardA at h ⊢
      simp only [hg] at h
      exact h
    cases hr with
    | cons h hr =>
      -- one step on
      have next : ∀ (x : Out) (sn : St), (∀ t, sn.get t = if o.dst = some t then x.av else s1.get t) → (sn.H = if isW o.op = true then x.H else s1.H) → sn.n = s1.n → Run1 P true ops r sn s' →
          Fact P ops (fun i => if i = k then x else pre i) s k o →
          ∃ out : Nat → Out, (∀ i, i < k → out i = pre i) ∧ (∀ i o, k ≤ i → ops[i]? = some o → Fact P ops out s i o) ∧ (∀ t, s'.get t = (sD ops out s (fun _ => true) ops.size).get t) ∧ s'.H = (sD ops out s (fun _ => true) ops.size).H ∧ s'.n = s.n := by
        intro x sn h1 h2 h3 hrn hf
        obtain ⟨out, g1, g2, g3⟩ := Run1.facts r (k + 1) (fun i => if i = k then x else pre i) s sn s' (fun i => by have := hl (i + 1); simp only [List.getElem?_cons_succ] at this; rw [this]; congr 1; omega) (by simp at hk; omega)
          (fun t => by rw [h1, sD_get, hod, sDpre x k (Nat.le_refl _), hg]; simp) (by rw [h2, sD_H, hod, sDpre x k (Nat.le_refl _), hH]; simp) (by rw [h3, hn]) (fun o ho => hgw o (by simp [ho])) hrn
        refine ⟨out, fun i hi => ?_, fun i o' hi ho' => ?_, g3⟩
        · rw [g1 i (by omega), if_neg (by omega)]
        · by_cases hik : i = k
          · subst hik
            rw [ho] at ho'; cases ho'
            have e1 : ∀ j, j ≤ i → sD ops out s (fun _ => true) j = sD ops (fun i' => if i' = i then x else pre i') s (fun _ => true) j := by
              intro j hj
              induction j with
              | zero => rfl
              | succ j ih => simp only [sD]; rw [ih (by omega), g1 j (by omega)]
            have e2 : out i = (fun i' => if i' = i then x else pre i') i := g1 i (by omega)
            refine ⟨hf.dst, ?_⟩
            have := hf.how
            rw [e1 i (Nat.le_refl _), e2]
            exact this
          · exact g2 i o' (by omega) ho'
      cases h with
      | skip hgd hd =>
        have hgn : o.guard ≠ none := by
          intro e
          unfold guardA at hgd
          rw [e] at hgd
          simp at hgd
        have hw := hgw o (by simp) hgn
        refine next ⟨.dead, s1.H⟩ _ (fun t => get_put _ _ _ _) (by rw [St.put_H]; simp) (St.put_n _ _ _) hr ⟨fun t ht => by rw [← hn]; exact hd t ht, .inl ⟨?_, by simp, hw⟩⟩
        rw [sDpre _ k (Nat.le_refl _)]
        exact hgs false hgd
      | op av H' hgd hd hdo hloc =>
        have hloc := hloc rfl
        have hag : ∀ (s2 : St), (∀ t, s2.get t = (sD ops pre s (fun _ => true) k).get t) → ∀ x, s2.ev x = s1.ev x := by
          intro s2 h2 x
          cases x <;> simp only [St.ev]
          rw [h2, hg]
        refine next ⟨av, H'⟩ (({ s1 with H := H' } : St).put o.dst av) (fun t => by rw [get_put]; rfl) (by
            rw [St.put_H]
            by_cases hw : isW o.op = true
            · rw [if_pos hw]
            · rw [if_neg hw]; exact hloc.calm (by simpa using hw)) (St.put_n _ _ _) hr ⟨fun t ht => by rw [← hn]; exact hd t ht, .inr ⟨?_, ?_⟩⟩
        · rw [sDpre _ k (Nat.le_refl _)]; exact hgs true hgd
        · rw [sDpre _ k (Nat.le_refl _)]
          simp only [if_true]
          have hev : ∀ x, (sD ops pre s (fun _ => true) k).ev x = s1.ev x := hag _ fun _ => rfl
          have hnn : (sD ops pre s (fun _ => true) k).n = s1.n := by rw [sD_n, hn]
          refine ⟨fun s2 h1 h2 h3 => hloc.here s2 (h1.trans hnn) (fun x hx => (h2 x hx).trans (hev x)) (h3.trans hH.symm), fun hf => ?_, fun hw => by rw [← hH]; exact hloc.calm hw⟩
          obtain ⟨e1, e2⟩ := hloc.free hf
          exact ⟨by rw [← hH]; exact e1, fun s2 h1 h2 => e2 s2 (h1.trans hnn) (fun x hx => (h2 x hx).trans (hev x))⟩

theorem isW_isT {o : Op} (h : isW o = true) : isT o = true := by
  unfold isW at h
  split at h <;> first | rfl | cases h

theorem drawOK_spec (h : drawOK ops = true) : (∀ j o, ops[j]? = some o → ∀ e ∈ o.after.toList, Region.binds .any e = true → e.on < j) ∧
    ∀ i j oi oj, i < j → ops[i]? = some oi → ops[j]? = some oj → apartB ops oi oj = false → ((anc ops).getD j 0).testBit i = true := by
  unfold drawOK at h
  rw [List.all_eq_true] at h
  constructor
  · intro j o ho e he hb
    have hj := (Array.getElem?_eq_some_iff.1 ho).1
    have := h j (by simpa using hj)
    rw [Bool.and_eq_true] at this
    have h1 := (List.all_eq_true.1 this.1) e (by rw [opAt_of ho]; exact he)
    rw [hb] at h1
    simpa using h1
  · intro i j oi oj hij hi hj ha
    have hj' := (Array.getElem?_eq_some_iff.1 hj).1
    have := h j (by simpa using hj')
    rw [Bool.and_eq_true] at this
    have h1 := (List.all_eq_true.1 this.2) i (by simpa using hij)
    rw [opAt_of hi, opAt_of hj, ha, Bool.false_or] at h1
    exact h1

/-- THE LAW: a region that draws its order. -/
theorem draw_sound {Q : Exit → Act → World → Prop} {C : Ctx} {s s' : St} (hok : drawOK ops = true) (hgw : ∀ o ∈ ops.toList, o.guard ≠ none → isW o.op = false) (hrun : Run1 P true ops ops.toList s s') {m : Map} {a : Act} {w : World} (R : Rel C m s a.tmps w) (hd : a.defers = [])
    (hQ : ∀ m' (a' : Act) w', Rel C m' s' a'.tmps w' → a'.defers = [] → Q .normal a' w') : wpAny P .any ops Q ops.size (Array.replicate ops.size false) a w := by
  obtain ⟨hedge, hconf⟩ := drawOK_spec hok
  obtain ⟨out, _, hfact, hget', hH', hn'⟩ := Run1.facts (ops := ops) ops.toList 0 (fun _ => ⟨.dead, []⟩) s s s' (fun i => by simp) (by simp) (fun _ => rfl) rfl rfl hgw hrun
  have hfact : ∀ i o, ops[i]? = some o → Fact P ops out s i o := fun i o => hfact i o (Nat.zero_le _)
  -- what has been listed
  have key : ∀ (fuel : Nat) (listed : Array Bool) (m : Map) (a : Act) (w : World), listed.size = ops.size → (List.range ops.size).countP (fun i => !listed.getD i true) = fuel →
      (∀ j o, listed.getD j false = true → ops[j]? = some o → ∀ e ∈ o.after.toList, Region.binds .any e = true → listed.getD e.on false = true) →
      Rel C m (sD ops out s (fun i => listed.getD i false) ops.size) a.tmps w → a.defers = [] → wpAny P .any ops Q fuel listed a w := by
    intro fuel
    induction fuel with
    | zero =>
      intro listed m a w hsz hcnt hcl R hd
      have hall : ∀ i, i < ops.size → listed.getD i true = true := by
        intro i hi
        have := List.countP_eq_zero.1 hcnt i (by simpa using hi)
        simpa using this
      refine ⟨?_, hQ m a w (R.congr (fun t => ?_) ?_ ?_) hd⟩
      · unfold Region.ready
        rw [List.filter_eq_nil_iff]
        intro i hi
        have := hall i (by simpa using hi)
        simp [this]
      · rw [hget']
        refine (sD_get_same out s _ _ t _ fun i hi _ => ?_).symm
        have := hall i hi
        simp [Array.getD_eq_getD_getElem?, Array.getElem?_eq_getElem (show i < listed.size by omega)] at this ⊢
        exact this
      · rw [hH']
        refine (sD_H_same out s _ _ _ fun i hi _ => ?_).symm
        have := hall i hi
        simp [Array.getD_eq_getD_getElem?, Array.getElem?_eq_getElem (show i < listed.size by omega)] at this ⊢
        exact this
      · rw [sD_n, hn']
    | succ fuel ih =>
      intro listed m a w hsz hcnt hcl R hd
      refine ⟨fun hnil => ?_, fun j hj => ?_⟩
      · -- something is ready: the first that has not been listed
        exfalso
        have hex : ∃ i, i < ops.size ∧ listed.getD i true = false := by
          have : 0 < (List.range ops.size).countP (fun i => !listed.getD i true) := by omega
          obtain ⟨i, hi, h⟩ := List.countP_pos_iff.1 this
          exact ⟨i, by simpa using hi, by simpa using h⟩
        have hmin : ∃ i, i < ops.size ∧ listed.getD i true = false ∧ ∀ k, k < i → listed.getD k true = true := by
          obtain ⟨i, hi, h⟩ := hex
          induction i using Nat.strongRecOn with
          | _ i ihh =>
            by_cases hall : ∀ k, k < i → listed.getD k true = true
            · exact ⟨i, hi, h, hall⟩
            · simp only [Classical.not_forall] at hall
              obtain ⟨k, hk, hkn⟩ := hall
              exact ihh k hk (by omega) (by simpa using hkn)
        obtain ⟨i, hi, hli, hbelow⟩ := hmin
        have hmem : i ∈ Region.ready .any ops listed := by
          unfold Region.ready
          rw [List.mem_filter]
          refine ⟨by simpa using hi, ?_⟩
          rw [hli, Array.getElem?_eq_getElem hi]
          simp only [Bool.not_false, Bool.true_and, Option.map_some, Option.getD_some]
          rw [Array.all_eq_true_iff_forall_mem]
          intro e he
          by_cases hb : Region.binds .any e = true
          · have hlt := hedge i ops[i] (Array.getElem?_eq_getElem hi) e (by simpa using he) hb
            have := hbelow e.on hlt
            have hlt' : e.on < listed.size := by omega
            simp [Array.getD_eq_getD_getElem?, Array.getElem?_eq_getElem hlt'] at this ⊢
            simp [this]
          · simp [hb]
        rw [hnil] at hmem
        simp at hmem
      · -- one that is ready
        unfold Region.ready at hj
        rw [List.mem_filter] at hj
        obtain ⟨hjlt, hj⟩ := hj
        have hjlt : j < ops.size := by simpa using hjlt
        have hoj : ops[j]? = some ops[j] := Array.getElem?_eq_getElem hjlt
        generalize ops[j] = o at hoj
        rw [hoj] at hj
        simp only [Option.map_some, Option.getD_some, Bool.and_eq_true, Bool.not_eq_eq_eq_not, Bool.not_true] at hj
        obtain ⟨hnl, hal⟩ := hj
        have hjls : j < listed.size := by omega
        have hnl' : listed.getD j false = false := by
          simp [Array.getD_eq_getD_getElem?, Array.getElem?_eq_getElem hjls] at hnl ⊢
          exact hnl
        have hpre : ∀ e ∈ o.after.toList, Region.binds .any e = true → listed.getD e.on false = true := by
          intro e he hb
          have := (Array.all_eq_true_iff_forall_mem.1 hal) e (by simpa using he)
          rw [hb] at this
          simpa using this
        have hanc : ∀ i, ((anc ops).getD j 0).testBit i = true → listed.getD i false = true :=
          anc_in (D := fun i => listed.getD i false = true) hcl j j o (Nat.le_refl _) hoj hpre
        have hanc' : ∀ i, listed.getD i false = true → ∀ oi, ops[i]? = some oi → ∀ k, ((anc ops).getD i 0).testBit k = true → listed.getD k false = true :=
          fun i hi oi hoi => anc_in (D := fun i => listed.getD i false = true) hcl i i oi (Nat.le_refl _) hoi (hcl i oi hi hoi)
        have hod : opAt ops j = o := opAt_of hoj
        -- those below that are not apart have been listed
        have low : ∀ i, i < j → apartB ops (opAt ops i) o = false → listed.getD i false = true := by
          intro i hi ha
          have hoi : ops[i]? = some ops[i] := Array.getElem?_eq_getElem (by omega)
          refine hanc i (hconf i j ops[i] o hi hoi hoj ?_)
          rwa [opAt_of hoi] at ha
        -- those above that have been listed are apart
        have high : ∀ i, j < i → i < ops.size → listed.getD i false = true → apartB ops o (opAt ops i) = true := by
          intro i hi hlt hli
          have hoi : ops[i]? = some ops[i] := Array.getElem?_eq_getElem hlt
          have e : opAt ops i = ops[i] := opAt_of hoi
          rw [e]
          by_cases ha : apartB ops o ops[i] = true
          · exact ha
          · have := hanc' i hli ops[i] hoi j (hconf j i o ops[i] hi hoj hoi (by simpa using ha))
            rw [this] at hnl'; cases hnl'
        -- the slots that it names are as in the text's order
        have agree : ∀ t, t ∈ o.looksAt ops → (sD ops out s (fun i => listed.getD i false) ops.size).get t = (sD ops out s (fun _ => true) j).get t := by
          intro t ht
          rw [sD_get_stay out s _ t j ops.size (by omega) (fun i h1 h2 h3 h4 => ?_)]
          · refine sD_get_same out s _ _ t j fun i hi hdi => ?_
            rw [low i hi ?_]
            rw [Bool.eq_false_iff]
            intro hap
            unfold apartB at hap
            rw [Bool.and_eq_true, Bool.and_eq_true] at hap
            exact (Oper.apart_spec hap.1.1).1 t hdi ht
          · by_cases hij : i = j
            · subst hij; rw [hnl'] at h3; cases h3
            · have hap := high i (by omega) h2 h3
              unfold apartB at hap
              rw [Bool.and_eq_true, Bool.and_eq_true] at hap
              exact (Oper.apart_spec hap.1.1).2.2 t h4 ht
        have agreeH : isT o.op = true → (sD ops out s (fun i => listed.getD i false) ops.size).H = (sD ops out s (fun _ => true) j).H := by
          intro hT
          rw [sD_H_stay out s _ j ops.size (by omega) (fun i h1 h2 h3 => ?_)]
          · refine sD_H_same out s _ _ j fun i hi hwi => ?_
            rw [low i hi ?_]
            rw [Bool.eq_false_iff]
            intro hap
            unfold apartB at hap
            simp [hwi, hT] at hap
          · by_cases hij : i = j
            · subst hij; rw [hnl'] at h3; cases h3
            · have hap := high i (by omega) h2 h3
              unfold apartB at hap
              simp only [hT, Bool.true_and, Bool.and_eq_true, Bool.not_eq_eq_eq_not, Bool.not_true] at hap
              exact hap.2
        -- the state behind it
        have hlist : ∀ i, (listed.setIfInBounds j true).getD i false = if i = j then true else listed.getD i false := by
          intro i
          simp only [Array.getD_eq_getD_getElem?]
          by_cases hij : i = j
          · subst hij; rw [Array.getElem?_setIfInBounds_self_of_lt hjls, if_pos rfl]; rfl
          · rw [Array.getElem?_setIfInBounds_ne (Ne.symm hij), if_neg hij]
        have insertGet : ∀ t, (sD ops out s (fun i => (listed.setIfInBounds j true).getD i false) ops.size).get t = if o.dst = some t then (out j).av else (sD ops out s (fun i => listed.getD i false) ops.size).get t := by
          intro t
          have base : ∀ k, k ≤ j → (sD ops out s (fun i => (listed.setIfInBounds j true).getD i false) k).get t = (sD ops out s (fun i => listed.getD i false) k).get t := fun k hk =>
            sD_get_same out s _ _ t k fun i hi _ => by rw [hlist, if_neg (by omega)]
          have step : ∀ n, j + 1 ≤ n → n ≤ ops.size → (sD ops out s (fun i => (listed.setIfInBounds j true).getD i false) n).get t = if o.dst = some t then (out j).av else (sD ops out s (fun i => listed.getD i false) n).get t := by
            intro n hn hns
            induction n with
            | zero => omega
            | succ n ihn =>
              by_cases hnj : n = j
              · subst hnj
                rw [sD_get, sD_get, hod, base n (Nat.le_refl _), hlist, if_pos rfl, hnl']
                by_cases hdt : o.dst = some t
                · simp [hdt]
                · simp [hdt]
              · rw [sD_get, sD_get, ihn (by omega) (by omega), hlist, if_neg hnj]
                by_cases hln : listed.getD n false = true ∧ (opAt ops n).dst = some t
                · rw [if_pos hln, if_pos hln]
                  have hap := high n (by omega) (by omega) hln.1
                  unfold apartB at hap
                  rw [Bool.and_eq_true, Bool.and_eq_true] at hap
                  by_cases hdt : o.dst = some t
                  · exact absurd hln.2 ((Oper.apart_spec hap.1.1).2.1 t hdt)
                  · rw [if_neg hdt]
                · rw [if_neg hln, if_neg hln]
          exact step ops.size (by omega) (Nat.le_refl _)
        have insertH : (sD ops out s (fun i => (listed.setIfInBounds j true).getD i false) ops.size).H = if isW o.op = true then (out j).H else (sD ops out s (fun i => listed.getD i false) ops.size).H := by
          have base : ∀ k, k ≤ j → (sD ops out s (fun i => (listed.setIfInBounds j true).getD i false) k).H = (sD ops out s (fun i => listed.getD i false) k).H := fun k hk =>
            sD_H_same out s _ _ k fun i hi _ => by rw [hlist, if_neg (by omega)]
          have step : ∀ n, j + 1 ≤ n → n ≤ ops.size → (sD ops out s (fun i => (listed.setIfInBounds j true).getD i false) n).H = if isW o.op = true then (out j).H else (sD ops out s (fun i => listed.getD i false) n).H := by
            intro n hn hns
            induction n with
            | zero => omega
            | succ n ihn =>
              by_cases hnj : n = j
              · subst hnj
                rw [sD_H, sD_H, hod, base n (Nat.le_refl _), hlist, if_pos rfl, hnl']
                by_cases hdt : isW o.op = true
                · simp [hdt]
                · simp [hdt]
              · rw [sD_H, sD_H, ihn (by omega) (by omega), hlist, if_neg hnj]
                by_cases hln : listed.getD n false = true ∧ isW (opAt ops n).op = true
                · rw [if_pos hln, if_pos hln]
                  have hap := high n (by omega) (by omega) hln.1
                  unfold apartB at hap
                  by_cases hdt : isW o.op = true
                  · simp [hdt, isW_isT hln.2] at hap
                  · rw [if_neg hdt]
                · rw [if_neg hln, if_neg hln]
          exact step ops.size (by omega) (Nat.le_refl _)
        have hcnt' : (List.range ops.size).countP (fun i => !(listed.setIfInBounds j true).getD i true) = fuel := by
          have hsplit : ∀ (l : List Nat), l.Nodup → j ∈ l → l.countP (fun i => !listed.getD i true) = l.countP (fun i => !(listed.setIfInBounds j true).getD i true) + 1 := by
            intro l
            induction l with
            | nil => intro _ h; simp at h
            | cons x r ihl =>
              intro hnd hmem
              have hx : ∀ i, i ≠ j → (listed.setIfInBounds j true).getD i true = listed.getD i true := by
                intro i hi
                simp only [Array.getD_eq_getD_getElem?]
                rw [Array.getElem?_setIfInBounds_ne (Ne.symm hi)]
              rw [List.nodup_cons] at hnd
              by_cases hxj : x = j
              · subst hxj
                have e1 : (listed.setIfInBounds x true).getD x true = true := by
                  simp only [Array.getD_eq_getD_getElem?]
                  rw [Array.getElem?_setIfInBounds_self_of_lt hjls]; rfl
                rw [List.countP_cons, List.countP_cons, hnl, e1]
                have : r.countP (fun i => !listed.getD i true) = r.countP (fun i => !(listed.setIfInBounds x true).getD i true) := by
                  apply List.countP_congr
                  intro i hi
                  rw [hx i (fun e => hnd.1 (e ▸ hi))]
                simp only [this, Bool.not_false, Bool.not_true, if_true, Bool.false_eq_true, if_false, Nat.add_zero]
              · rw [List.countP_cons, List.countP_cons, hx x hxj, ihl hnd.2 (by rcases List.mem_cons.1 hmem with h | h; exact absurd h.symm hxj; exact h)]
                omega
          have := hsplit (List.range ops.size) List.nodup_range (by simpa using hjlt)
          omega
        have hcl' : ∀ i oi, (listed.setIfInBounds j true).getD i false = true → ops[i]? = some oi → ∀ e ∈ oi.after.toList, Region.binds .any e = true → (listed.setIfInBounds j true).getD e.on false = true := by
          intro i oi hi hoi e he hb
          rw [hlist] at hi ⊢
          by_cases hij : i = j
          · subst hij
            rw [hoj] at hoi; cases hoi
            rw [hpre e he hb]; simp
          · rw [if_neg hij] at hi
            rw [hcl i oi hi hoi e he hb]; simp
        have next : ∀ (m' : Map) (a' : Act) (w' : World), (∃ s2 : St, Rel C m' s2 a'.tmps w' ∧ (∀ t, s2.get t = if o.dst = some t then (out j).av else (sD ops out s (fun i => listed.getD i false) ops.size).get t) ∧
              (s2.H = if isW o.op = true then (out j).H else (sD ops out s (fun i => listed.getD i false) ops.size).H) ∧ s2.n = s.n) → a'.defers = [] → wpAny P .any ops Q fuel (listed.setIfInBounds j true) a' w' := by
          rintro m' a' w' ⟨s2, R2, e1, e2, e3⟩ hd'
          refine ih _ m' a' w' (by simpa using hsz) hcnt' hcl' (R2.congr (fun t => ?_) ?_ ?_) hd'
          · rw [insertGet, e1]
          · rw [insertH, e2]
          · rw [sD_n, e3]
        have hgd : ∀ b, guardA ops (sD ops out s (fun _ => true) j) o = some b → guardA ops (sD ops out s (fun i => listed.getD i false) ops.size) o = some b := by
          intro b h
          unfold guardA at h ⊢
          split at h
          · exact h
          · rename_i g want e
            split at h
            · rename_i d hdd
              have : (sD ops out s (fun i => listed.getD i false) ops.size).get d = (sD ops out s (fun _ => true) j).get d := agree d (by
                unfold Oper.looksAt
                rw [e]
                simp [hdd])
              rw [this]
              exact h
            · cases h
        have hsn : (sD ops out s (fun i => listed.getD i false) ops.size).n = s.n := sD_n _ _ _ _
        obtain ⟨fd, fh⟩ := hfact j o hoj
        unfold wpOp
        rw [hoj]
        simp only
        rcases fh with ⟨hg, hdead, hw⟩ | ⟨hg, hloc⟩
        · rw [guardA_wanted (P := P) R (hgd _ hg)]
          simp only [Bool.false_eq_true, if_false]
          refine next m _ w ⟨_, R.put (fun t ht => by rw [hsn]; exact fd t ht) (.dead _), fun t => ?_, ?_, ?_⟩ (by rw [put_defers]; exact hd)
          · rw [get_put, hdead]
          · rw [St.put_H, hw]; simp
          · rw [St.put_n, hsn]
        · rw [guardA_wanted (P := P) R (hgd _ hg)]
          simp only [if_true]
          left
          have hag : Agree o (sD ops out s (fun _ => true) j) (sD ops out s (fun i => listed.getD i false) ops.size) := by
            intro x hx
            cases x with
            | tmp t =>
              simp only [St.ev]
              refine agree t ?_
              unfold Oper.looksAt
              rw [List.mem_append]
              left
              rw [List.mem_filterMap]
              exact ⟨.tmp t, by simpa using hx, rfl⟩
            | _ => rfl
          have hn2 : (sD ops out s (fun i => listed.getD i false) ops.size).n = (sD ops out s (fun _ => true) j).n := by rw [sD_n, sD_n]
          by_cases hT : isT o.op = true
          · refine hloc.here _ hn2 hag (agreeH hT) C m a w _ Q R fun v m' w' R' hv => ?_
            refine next m' _ w' ⟨_, R'.put (fun t ht => by simp only; rw [hsn]; exact fd t ht) hv, fun t => ?_, ?_, ?_⟩ (by rw [put_defers]; exact hd)
            · rw [get_put]; rfl
            · rw [St.put_H]
              by_cases hw : isW o.op = true
              · rw [if_pos hw]
              · rw [if_neg hw, agreeH hT]; exact hloc.calm (by simpa using hw)
            · rw [St.put_n]; exact hsn
          · obtain ⟨e1, e2⟩ := hloc.free (by simpa using hT)
            refine e2 _ hn2 hag C m a w _ Q R fun v m' w' R' hv => ?_
            have hw : isW o.op = false := by
              rw [Bool.eq_false_iff]
              exact fun hw => hT (isW_isT hw)
            refine next m' _ w' ⟨_, R'.put (fun t ht => by simp only; rw [hsn]; exact fd t ht) hv, fun t => ?_, ?_, ?_⟩ (by rw [put_defers]; exact hd)
            · rw [get_put]
            · rw [St.put_H, hw]; simp
            · rw [St.put_n]; exact hsn
  refine key ops.size (Array.replicate ops.size false) m a w (by simp) ?_ ?_ ?_ hd
  · have : ∀ i ∈ List.range ops.size, (!(Array.replicate ops.size false).getD i true) = true := by
      intro i hi
      have hi : i < ops.size := by simpa using hi
      simp [Array.getD_eq_getD_getElem?, hi]
    rw [List.countP_eq_length.2 this]
    simp
  · intro j o hj
    exfalso
    simp only [Array.getD_eq_getD_getElem?, Array.getElem?_replicate] at hj
    split at hj <;> simp at hj
  · refine R.congr (fun t => ?_) ?_ (sD_n _ _ _ _)
    · refine sD_get_stay out s _ t 0 ops.size (Nat.zero_le _) fun i _ hi h => ?_
      simp only [Array.getD_eq_getD_getElem?, Array.getElem?_replicate] at h
      split at h <;> simp at h
    · refine sD_H_stay out s _ 0 ops.size (Nat.zero_le _) fun i _ hi h => ?_
      simp only [Array.getD_eq_getD_getElem?, Array.getElem?_replicate] at h
      split at h <;> simp at h

end

end Go.Pv
