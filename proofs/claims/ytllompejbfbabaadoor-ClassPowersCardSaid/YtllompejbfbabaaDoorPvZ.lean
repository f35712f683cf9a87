/-
  Regions that draw their order: soundness; their evaluation. Conditions: none; a library text.
-/
import Derived.Test.YtllompejbfbabaaDoorPvY
set_option linter.all false
namespace Go.Pv
open Go.RowKit

theorem get_of_hget : ∀ {H : Heap} {k : Nat} {b : Blk}, k < H.length → hget H k = b → H[k]? = some b
  | x :: r, 0, b, _, h => by simp only [hget] at h; simp [h]
  | x :: r, k + 1, b, hk, h => by simpa using get_of_hget (H := r) (by simpa using hk) h
  | [], k, b, hk, _ => by simp at hk
theorem hget_of_get : ∀ {H : Heap} {k : Nat} {b : Blk}, H[k]? = some b → hget H k = b
  | x :: r, 0, b, h => by simpa [hget] using h
  | x :: r, k + 1, b, h => hget_of_get (H := r) (by simpa using h)
  | [], k, b, h => by simp at h

section
variable {P : Program} {ops : Array Oper}

/-- THE LAW: a region that draws its order, by what its operations touch. -/
theorem draw2_sound {Q : Exit → Act → World → Prop} {C : Ctx} {s s' : St} {xs : List I2} (hok : draw2OK ops xs = true) (hrun : Run2 P ops ops.toList xs s s') {m : Map} {a : Act} {w : World} (R : Rel C m s a.tmps w) (hd : a.defers = [])
    (hQ : ∀ m' (a' : Act) w', Rel C m' s' a'.tmps w' → a'.defers = [] → Q .normal a' w') : wpAny P .any ops Q ops.size (Array.replicate ops.size false) a w := by
  obtain ⟨hedge, hconf, hnr⟩ := draw2OK_spec hok
  obtain ⟨I, hI⟩ : ∃ I : Nat → I2, I = fun i => xs.getD i default := ⟨_, rfl⟩
  rw [← hI] at hconf
  have hnr0 : ∀ j κ, j < ops.size → (I j).c.mk = some κ → ∀ i, i < ops.size → i ≠ j → ((anc ops).getD i 0).testBit j = false → NoRef κ (I i).av ∧ ((I i).pu = false → ∀ c, (I i).b = Blk.own c → ∀ (q : Nat) (h : q < c.length), NoRef κ c[q]) := by
    rw [hI]; exact hnr
  obtain ⟨hfact, rfl⟩ := facts2 (P := P) (ops := ops) (I := I) (s := s) (s' := s') ops.toList xs 0 (fun i => by simp) (fun i x h => by rw [hI]; simp [List.getD, h]) (by simp) hrun
  have hfact : ∀ i o, ops[i]? = some o → Fact2 P ops I s i o := fun i o => hfact i o (Nat.zero_le _)
  have hnr : ∀ j κ, j < ops.size → (I j).c.mk = some κ → ∀ i, i < ops.size → i ≠ j → ((anc ops).getD i 0).testBit j = false → NoRef κ (I i).av ∧ ∀ c, (I i).b = Blk.own c → ∀ (q : Nat) (h : q < c.length), NoRef κ c[q] := by
    intro j κ hj hc i hi hij hb
    obtain ⟨g1, g2⟩ := hnr0 j κ hj hc i hi hij hb
    refine ⟨g1, fun c hc' q hq => ?_⟩
    cases hpu : (I i).pu with
    | false => exact g2 hpu c hc' q hq
    | true => exact (hfact i ops[i] (Array.getElem?_eq_getElem hi)).pu hpu c hc' q hq κ
  have hfits : Fits I s ops ops.size := by
    intro k hk
    obtain ⟨_, _, hh⟩ := hfact k ops[k] (Array.getElem?_eq_getElem hk)
    rcases hh with ⟨_, e⟩ | ⟨_, h⟩
    · rw [e]; trivial
    · unfold Loc2 at h
      cases hc : (I k).c with
      | f => trivial
      | ld j => rw [hc] at h; exact h.1
      | st j => rw [hc] at h; exact h.1
      | nw j => rw [hc] at h; exact h.1
      | ap i j => rw [hc] at h; exact h.1
  obtain ⟨L, hL⟩ : ∃ L, (cS ops I s ops.size).H.length = s.H.length + L := ⟨(cS ops I s ops.size).H.length - s.H.length, by
    have := cS_len_mono (ops := ops) (I := I) (s := s) (Nat.zero_le ops.size)
    simp only [cS] at this; omega⟩
  have hall := tD_all hfits hL
  -- the blocks that are made are not named at the beginning
  have hκ0 : ∀ j κ, j < ops.size → (I j).c.mk = some κ → s.H.length ≤ κ ∧ κ < s.H.length + L := by
    intro j κ hj hc
    have h1 := hfits j hj
    have h2 := cS_len_mono (ops := ops) (I := I) (s := s) (Nat.zero_le j)
    have h3 := cS_len_mono (ops := ops) (I := I) (s := s) (show j + 1 ≤ ops.size from hj)
    simp only [cS] at h2
    cases hcc : (I j).c with
    | nw k =>
      rw [hcc] at h1 hc
      simp only [Cls.mk, Option.some.injEq] at hc
      simp only at h1
      have h4 : (cS ops I s (j + 1)).H.length = (cS ops I s j).H.length + 1 := by
        simp only [cS]; rw [St.put_H]; simp only [nxtH, hcc]; simp
      omega
    | ap q k =>
      rw [hcc] at h1 hc
      simp only [Cls.mk, Option.some.injEq] at hc
      simp only at h1
      have h4 : (cS ops I s (j + 1)).H.length = (cS ops I s j).H.length + 1 := by
        simp only [cS]; rw [St.put_H]; simp only [nxtH, hcc]; simp [hset_length]
      omega
    | f => rw [hcc] at hc; simp [Cls.mk] at hc
    | ld _ => rw [hcc] at hc; simp [Cls.mk] at hc
    | st _ => rw [hcc] at hc; simp [Cls.mk] at hc
  have hs0 : ∀ κ, s.H.length ≤ κ → (∀ t, NoRef κ (s.get t)) ∧ ∀ (j : Nat) (c : List AV), s.H[j]? = some (Blk.own c) → ∀ (i : Nat) (h : i < c.length), NoRef κ c[i] := by
    intro κ hκ
    refine ⟨fun t => (R.slot t).noRef hκ, fun j c hc i hi => ?_⟩
    rcases R.blk j c hc with ⟨b1, _⟩ | ⟨l2, cur2, e2, _, _, _, _, _, _, b7⟩
    · subst b1; simp at hi
    · exact (b7 i hi).noRef hκ
  -- what has been listed
  have key : ∀ (fuel : Nat) (listed : Array Bool) (m : Map) (a : Act) (w : World), listed.size = ops.size → (List.range ops.size).countP (fun i => !listed.getD i true) = fuel →
      (∀ j o, listed.getD j false = true → ops[j]? = some o → ∀ e ∈ o.after.toList, Region.binds .any e = true → listed.getD e.on false = true) →
      Rel C m (tD ops I s L (fun i => listed.getD i false) ops.size) a.tmps w → a.defers = [] → wpAny P .any ops Q fuel listed a w := by
    intro fuel
    induction fuel with
    | zero =>
      intro listed m a w hsz hcnt hcl R hd
      have hal : ∀ i, i < ops.size → listed.getD i true = true := by
        intro i hi
        have := List.countP_eq_zero.1 hcnt i (by simpa using hi)
        simpa using this
      have hal' : ∀ i, i < ops.size → listed.getD i false = true := by
        intro i hi
        have := hal i hi
        simp [Array.getD_eq_getD_getElem?, Array.getElem?_eq_getElem (show i < listed.size by omega)] at this ⊢
        exact this
      obtain ⟨a1, a2⟩ := hall ops.size (Nat.le_refl _)
      refine ⟨?_, hQ m a w (R.congr (fun t => ?_) ?_ ?_) hd⟩
      · unfold Region.ready
        rw [List.filter_eq_nil_iff]
        intro i hi
        have := hal i (by simpa using hi)
        simp [this]
      · rw [← a1]
        exact (tD_get_same _ _ t _ fun i hi _ => (hal' i hi)).symm
      · refine hget_ext (by rw [hL, tD_len]) fun b => ?_
        rw [← a2]
        exact (tD_hget_same _ _ b _ fun i hi _ => (hal' i hi)).symm
      · rw [tD_n, cS_n]
    | succ fuel ih =>
      intro listed m a w hsz hcnt hcl R hd
      refine ⟨fun hnil => ?_, fun j hj => ?_⟩
      · -- something is ready: the first that has not been listed
        exfalso
        have hex : ∃ i, i < ops.size ∧ listed.getD i true = false := by
          have : 0 < (List.range ops.size).countP (fun i => !listed.getD i true) := by omega
          obtain ⟨i, hi, h⟩ := List.countP_pos_iff.1 this
          exact ⟨i, by simpa using hi, by simpa using h⟩
        have hmin : ∃ i, i < ops.size ∧ listed.getD i true = false ∧ ∀ k, k < i → listed.getD k true = true := by
          obtain ⟨i, hi, h⟩ := hex
          induction i using Nat.strongRecOn with
          | _ i ihh =>
            by_cases hall : ∀ k, k < i → listed.getD k true = true
            · exact ⟨i, hi, h, hall⟩
            · simp only [Classical.not_forall] at hall
              obtain ⟨k, hk, hkn⟩ := hall
              exact ihh k hk (by omega) (by simpa using hkn)
        obtain ⟨i, hi, hli, hbelow⟩ := hmin
        have hmem : i ∈ Region.ready .any ops listed := by
          unfold Region.ready
          rw [List.mem_filter]
          refine ⟨by simpa using hi, ?_⟩
          rw [hli, Array.getElem?_eq_getElem hi]
          simp only [Bool.not_false, Bool.true_and, Option.map_some, Option.getD_some]
          rw [Array.all_eq_true_iff_forall_mem]
          intro e he
          by_cases hb : Region.binds .any e = true
          · have hlt := hedge i ops[i] (Array.getElem?_eq_getElem hi) e (by simpa using he) hb
            have := hbelow e.on hlt
            have hlt' : e.on < listed.size := by omega
            simp [Array.getD_eq_getD_getElem?, Array.getElem?_eq_getElem hlt'] at this ⊢
            simp [this]
          · simp [hb]
        rw [hnil] at hmem
        simp at hmem
      · -- one that is ready
        unfold Region.ready at hj
        rw [List.mem_filter] at hj
        obtain ⟨hjlt, hj⟩ := hj
        have hjlt : j < ops.size := by simpa using hjlt
        have hoj : ops[j]? = some ops[j] := Array.getElem?_eq_getElem hjlt
        generalize ops[j] = o at hoj
        rw [hoj] at hj
        simp only [Option.map_some, Option.getD_some, Bool.and_eq_true, Bool.not_eq_eq_eq_not, Bool.not_true] at hj
        obtain ⟨hnl, hal⟩ := hj
        have hjls : j < listed.size := by omega
        have hnl' : listed.getD j false = false := by
          simp [Array.getD_eq_getD_getElem?, Array.getElem?_eq_getElem hjls] at hnl ⊢
          exact hnl
        have hpre : ∀ e ∈ o.after.toList, Region.binds .any e = true → listed.getD e.on false = true := by
          intro e he hb
          have := (Array.all_eq_true_iff_forall_mem.1 hal) e (by simpa using he)
          rw [hb] at this
          simpa using this
        have hanc : ∀ i, ((anc ops).getD j 0).testBit i = true → listed.getD i false = true :=
          anc_in (D := fun i => listed.getD i false = true) hcl j j o (Nat.le_refl _) hoj hpre
        have hanc' : ∀ i, listed.getD i false = true → ∀ oi, ops[i]? = some oi → ∀ k, ((anc ops).getD i 0).testBit k = true → listed.getD k false = true :=
          fun i hi oi hoi => anc_in (D := fun i => listed.getD i false = true) hcl i i oi (Nat.le_refl _) hoi (hcl i oi hi hoi)
        have hod : opAt ops j = o := opAt_of hoj
        -- those below that are not apart have been listed
        have low : ∀ i, i < j → apart2 ops I i j = false → listed.getD i false = true := fun i hi ha => hanc i (hconf i j hi hjlt ha)
        -- those above that have been listed are apart
        have high : ∀ i, j < i → i < ops.size → listed.getD i false = true → apart2 ops I j i = true := by
          intro i hi hlt hli
          have hoi : ops[i]? = some ops[i] := Array.getElem?_eq_getElem hlt
          by_cases ha : apart2 ops I j i = true
          · exact ha
          · have := hanc' i hli ops[i] hoi j (hconf j i hi hlt (by simpa using ha))
            rw [this] at hnl'; cases hnl'
        have ap1 : ∀ {i k : Nat}, apart2 ops I i k = true → (opAt ops i).apart ops (opAt ops k) = true ∧ confl (I i).c (I k).c = false := by
          intro i k h
          unfold apart2 at h
          simpa using h
        -- the slots that it names are as in the text's order
        have agree : ∀ t, t ∈ o.looksAt ops → (tD ops I s L (fun i => listed.getD i false) ops.size).get t = (cS ops I s j).get t := by
          intro t ht
          rw [← (hall j (by omega)).1, tD_get_stay _ t j ops.size (by omega) (fun i h1 h2 h3 h4 => ?_)]
          · refine tD_get_same _ _ t j fun i hi hdi => ?_
            rw [low i hi ?_]
            rw [Bool.eq_false_iff]
            intro hap
            have := (ap1 hap).1
            rw [hod] at this
            exact (Oper.apart_spec this).1 t hdi ht
          · by_cases hij : i = j
            · subst hij; rw [hnl'] at h3; cases h3
            · have := (ap1 (high i (by omega) h2 h3)).1
              rw [hod] at this
              exact (Oper.apart_spec this).2.2 t h4 ht
        -- a block that it touches, too
        have agreeH : ∀ b, (I j).c.tch b = true → hget (tD ops I s L (fun i => listed.getD i false) ops.size).H b = hget (cS ops I s j).H b := by
          intro b hb
          rw [← (hall j (by omega)).2, tD_hget_stay _ b j ops.size (by omega) (fun i h1 h2 h3 => ?_)]
          · refine tD_hget_same _ _ b j fun i hi hwi => ?_
            rw [low i hi ?_]
            rw [Bool.eq_false_iff]
            intro hap
            exact (confl_spec (ap1 hap).2 b).2 ⟨hwi, hb⟩
          · by_cases hij : i = j
            · subst hij; rw [hnl'] at h3; cases h3
            · rw [Bool.eq_false_iff]
              intro hw
              exact (confl_spec (ap1 (high i (by omega) h2 h3)).2 b).1 ⟨hb, hw⟩
        -- the state behind it
        have hlist : ∀ i, (listed.setIfInBounds j true).getD i false = if i = j then true else listed.getD i false := by
          intro i
          simp only [Array.getD_eq_getD_getElem?]
          by_cases hij : i = j
          · subst hij; rw [Array.getElem?_setIfInBounds_self_of_lt hjls, if_pos rfl]; rfl
          · rw [Array.getElem?_setIfInBounds_ne (Ne.symm hij), if_neg hij]
        have insertGet : ∀ t, (tD ops I s L (fun i => (listed.setIfInBounds j true).getD i false) ops.size).get t = if o.dst = some t then (I j).av else (tD ops I s L (fun i => listed.getD i false) ops.size).get t := by
          intro t
          have base : ∀ k, k ≤ j → (tD ops I s L (fun i => (listed.setIfInBounds j true).getD i false) k).get t = (tD ops I s L (fun i => listed.getD i false) k).get t := fun k hk =>
            tD_get_same _ _ t k fun i hi _ => by rw [hlist, if_neg (by omega)]
          have step : ∀ n, j + 1 ≤ n → n ≤ ops.size → (tD ops I s L (fun i => (listed.setIfInBounds j true).getD i false) n).get t = if o.dst = some t then (I j).av else (tD ops I s L (fun i => listed.getD i false) n).get t := by
            intro n hn hns
            induction n with
            | zero => omega
            | succ n ihn =>
              by_cases hnj : n = j
              · subst hnj
                rw [tD_get, tD_get, hod, base n (Nat.le_refl _), hlist, if_pos rfl, hnl']
                by_cases hdt : o.dst = some t
                · simp [hdt]
                · simp [hdt]
              · rw [tD_get, tD_get, ihn (by omega) (by omega), hlist, if_neg hnj]
                by_cases hln : listed.getD n false = true ∧ (opAt ops n).dst = some t
                · rw [if_pos hln, if_pos hln]
                  have hap := (ap1 (high n (by omega) (by omega) hln.1)).1
                  rw [hod] at hap
                  by_cases hdt : o.dst = some t
                  · exact absurd hln.2 ((Oper.apart_spec hap).2.1 t hdt)
                  · rw [if_neg hdt]
                · rw [if_neg hln, if_neg hln]
          exact step ops.size (by omega) (Nat.le_refl _)
        have insertH : ∀ b, hget (tD ops I s L (fun i => (listed.setIfInBounds j true).getD i false) ops.size).H b = if (I j).c.wrt b = true ∧ b < s.H.length + L then wv (I j) b else hget (tD ops I s L (fun i => listed.getD i false) ops.size).H b := by
          intro b
          have base : ∀ k, k ≤ j → hget (tD ops I s L (fun i => (listed.setIfInBounds j true).getD i false) k).H b = hget (tD ops I s L (fun i => listed.getD i false) k).H b := fun k hk =>
            tD_hget_same _ _ b k fun i hi _ => by rw [hlist, if_neg (by omega)]
          have step : ∀ n, j + 1 ≤ n → n ≤ ops.size → hget (tD ops I s L (fun i => (listed.setIfInBounds j true).getD i false) n).H b = if (I j).c.wrt b = true ∧ b < s.H.length + L then wv (I j) b else hget (tD ops I s L (fun i => listed.getD i false) n).H b := by
            intro n hn hns
            induction n with
            | zero => omega
            | succ n ihn =>
              by_cases hnj : n = j
              · subst hnj
                rw [tD_hget, tD_hget, base n (Nat.le_refl _), hlist, if_pos rfl, hnl']
                by_cases hdt : (I n).c.wrt b = true ∧ b < s.H.length + L
                · rw [if_pos ⟨rfl, hdt⟩, if_pos hdt]
                · rw [if_neg (fun hh => hdt hh.2), if_neg hdt, if_neg (fun hh => by cases hh.1)]
              · rw [tD_hget, tD_hget, ihn (by omega) (by omega), hlist, if_neg hnj]
                by_cases hln : listed.getD n false = true ∧ (I n).c.wrt b = true ∧ b < s.H.length + L
                · rw [if_pos hln, if_pos hln]
                  have hap := (ap1 (high n (by omega) (by omega) hln.1)).2
                  by_cases hdt : (I j).c.wrt b = true
                  · exact absurd ⟨hdt, Cls.wrt_tch hln.2.1⟩ (confl_spec hap b).2
                  · rw [if_neg (fun hh => hdt hh.1)]
                · rw [if_neg hln, if_neg hln]
          exact step ops.size (by omega) (Nat.le_refl _)
        have hcnt' : (List.range ops.size).countP (fun i => !(listed.setIfInBounds j true).getD i true) = fuel := by
          have hsplit : ∀ (l : List Nat), l.Nodup → j ∈ l → l.countP (fun i => !listed.getD i true) = l.countP (fun i => !(listed.setIfInBounds j true).getD i true) + 1 := by
            intro l
            induction l with
            | nil => intro _ h; simp at h
            | cons x r ihl =>
              intro hnd hmem
              have hx : ∀ i, i ≠ j → (listed.setIfInBounds j true).getD i true = listed.getD i true := by
                intro i hi
                simp only [Array.getD_eq_getD_getElem?]
                rw [Array.getElem?_setIfInBounds_ne (Ne.symm hi)]
              rw [List.nodup_cons] at hnd
              by_cases hxj : x = j
              · subst hxj
                have e1 : (listed.setIfInBounds x true).getD x true = true := by
                  simp only [Array.getD_eq_getD_getElem?]
                  rw [Array.getElem?_setIfInBounds_self_of_lt hjls]; rfl
                rw [List.countP_cons, List.countP_cons, hnl, e1]
                have : r.countP (fun i => !listed.getD i true) = r.countP (fun i => !(listed.setIfInBounds x true).getD i true) := by
                  apply List.countP_congr
                  intro i hi
                  rw [hx i (fun e => hnd.1 (e ▸ hi))]
                simp only [this, Bool.not_false, Bool.not_true, if_true, Bool.false_eq_true, if_false, Nat.add_zero]
              · rw [List.countP_cons, List.countP_cons, hx x hxj, ihl hnd.2 (by rcases List.mem_cons.1 hmem with h | h; exact absurd h.symm hxj; exact h)]
                omega
          have := hsplit (List.range ops.size) List.nodup_range (by simpa using hjlt)
          omega
        have hcl' : ∀ i oi, (listed.setIfInBounds j true).getD i false = true → ops[i]? = some oi → ∀ e ∈ oi.after.toList, Region.binds .any e = true → (listed.setIfInBounds j true).getD e.on false = true := by
          intro i oi hi hoi e he hb
          rw [hlist] at hi ⊢
          by_cases hij : i = j
          · subst hij
            rw [hoj] at hoi; cases hoi
            rw [hpre e he hb]; simp
          · rw [if_neg hij] at hi
            rw [hcl i oi hi hoi e he hb]; simp
        have hTlen : (tD ops I s L (fun i => listed.getD i false) ops.size).H.length = s.H.length + L := tD_len _ _
        have next : ∀ (m' : Map) (a' : Act) (w' : World), (∃ s2 : St, Rel C m' s2 a'.tmps w' ∧ (∀ t, s2.get t = if o.dst = some t then (I j).av else (tD ops I s L (fun i => listed.getD i false) ops.size).get t) ∧
              (s2.H = updC (I j) (tD ops I s L (fun i => listed.getD i false) ops.size).H) ∧ s2.n = s.n) → a'.defers = [] → wpAny P .any ops Q fuel (listed.setIfInBounds j true) a' w' := by
          rintro m' a' w' ⟨s2, R2, e1, e2, e3⟩ hd'
          refine ih _ m' a' w' (by simpa using hsz) hcnt' hcl' (R2.congr (fun t => ?_) ?_ ?_) hd'
          · rw [insertGet, e1]
          · rw [e2]
            refine hget_ext (by rw [tD_len, updC_len, hTlen]) fun b => ?_
            rw [insertH, updC_hget, hTlen]
          · rw [tD_n, e3]
        have hgd : ∀ b, guardA ops (cS ops I s j) o = some b → guardA ops (tD ops I s L (fun i => listed.getD i false) ops.size) o = some b := by
          intro b h
          unfold guardA at h ⊢
          split at h
          · exact h
          · rename_i g want e
            split at h
            · rename_i d hdd
              have : (tD ops I s L (fun i => listed.getD i false) ops.size).get d = (cS ops I s j).get d := agree d (by
                unfold Oper.looksAt
                rw [e]
                simp [hdd])
              rw [this]
              exact h
            · cases h
        have hsn : (tD ops I s L (fun i => listed.getD i false) ops.size).n = s.n := tD_n _ _
        obtain ⟨_, fd, fh⟩ := hfact j o hoj
        unfold wpOp
        rw [hoj]
        simp only
        rcases fh with ⟨hg, hIj⟩ | ⟨hg, hloc⟩
        · rw [guardA_wanted (P := P) R (hgd _ hg)]
          simp only [Bool.false_eq_true, if_false]
          refine next m _ w ⟨_, R.put (fun t ht => by rw [hsn]; exact fd t ht) (.dead _), fun t => ?_, ?_, ?_⟩ (by rw [put_defers]; exact hd)
          · rw [get_put, hIj]
          · rw [St.put_H, hIj]; rfl
          · rw [St.put_n, hsn]
        · rw [guardA_wanted (P := P) R (hgd _ hg)]
          simp only [if_true]
          left
          have hag : Agree o (cS ops I s j) (tD ops I s L (fun i => listed.getD i false) ops.size) := by
            intro x hx
            cases x with
            | tmp t =>
              simp only [St.ev]
              refine agree t ?_
              unfold Oper.looksAt
              rw [List.mem_append]
              left
              rw [List.mem_filterMap]
              exact ⟨.tmp t, by simpa using hx, rfl⟩
            | _ => rfl
          have hn2 : (tD ops I s L (fun i => listed.getD i false) ops.size).n = (cS ops I s j).n := by rw [tD_n, cS_n]
          have fin : DoesW P o (tD ops I s L (fun i => listed.getD i false) ops.size) (I j).av (updC (I j) (tD ops I s L (fun i => listed.getD i false) ops.size).H) →
              o.wp P a w (wpAny P .any ops Q fuel (listed.setIfInBounds j true)) Q := by
            intro hdo
            refine hdo C m a w _ Q R fun v m' w' R' hv => ?_
            refine next m' _ w' ⟨_, R'.put (fun t ht => by simp only; rw [hsn]; exact fd t ht) hv, fun t => ?_, ?_, ?_⟩ (by rw [put_defers]; exact hd)
            · rw [get_put]; rfl
            · rw [St.put_H]
            · rw [St.put_n]; exact hsn
          have fresh : ∀ k, (I j).c.mk = some k → (I j).c.tch k = true → (cS ops I s j).H.length = k → (tD ops I s L (fun i => listed.getD i false) ops.size).H[k]? = some .dead ∧ (∀ t, NoRef k ((tD ops I s L (fun i => listed.getD i false) ops.size).get t)) ∧ ∀ (b : Nat) (c : List AV), (tD ops I s L (fun i => listed.getD i false) ops.size).H[b]? = some (Blk.own c) → ∀ (q : Nat) (h : q < c.length), NoRef k c[q] := by
            intro k hc htch hlk
            obtain ⟨k1, k2⟩ := hκ0 j k hjlt hc
            -- nobody names it yet
            have hD : ∀ i, i < ops.size → listed.getD i false = true → i ≠ j ∧ ((anc ops).getD i 0).testBit j = false := by
              intro i hi hli
              refine ⟨fun e => by (subst e; rw [hnl'] at hli; cases hli), ?_⟩
              rw [Bool.eq_false_iff]
              intro hb
              have := hanc' i hli ops[i] (Array.getElem?_eq_getElem hi) j hb
              rw [this] at hnl'; cases hnl'
            have hno : ∀ n, n ≤ ops.size → (∀ t, NoRef k ((tD ops I s L (fun i => listed.getD i false) n).get t)) ∧ ∀ (b : Nat) (c : List AV), hget (tD ops I s L (fun i => listed.getD i false) n).H b = Blk.own c → ∀ (q : Nat) (h : q < c.length), NoRef k c[q] := by
              intro n
              induction n with
              | zero =>
                intro _
                refine ⟨(hs0 k k1).1, fun b c hb => ?_⟩
                simp only [tD] at hb
                by_cases hlt : b < s.H.length
                · rw [hget_app1 hlt] at hb
                  exact (hs0 k k1).2 b c (hget_mut hb)
                · rw [hget_app2 (by omega), hget_rep] at hb
                  cases hb
              | succ n ihn =>
                intro hn
                obtain ⟨i1, i2⟩ := ihn (by omega)
                refine ⟨fun t => ?_, fun b c hb => ?_⟩
                · rw [tD_get]
                  by_cases hh : listed.getD n false = true ∧ (opAt ops n).dst = some t
                  · rw [if_pos hh]
                    obtain ⟨d1, d2⟩ := hD n (by omega) hh.1
                    exact (hnr j k hjlt hc n (by omega) d1 d2).1
                  · rw [if_neg hh]; exact i1 t
                · rw [tD_hget] at hb
                  by_cases hh : listed.getD n false = true ∧ (I n).c.wrt b = true ∧ b < s.H.length + L
                  · rw [if_pos hh] at hb
                    obtain ⟨d1, d2⟩ := hD n (by omega) hh.1
                    refine (hnr j k hjlt hc n (by omega) d1 d2).2 c ?_
                    unfold wv at hb
                    split at hb
                    · split at hb
                      · exact hb
                      · cases hb
                    · exact hb
                  · rw [if_neg hh] at hb; exact i2 b c hb
            obtain ⟨n1, n2⟩ := hno ops.size (Nat.le_refl _)
            have hkl : k < (tD ops I s L (fun i => listed.getD i false) ops.size).H.length := by rw [hTlen]; exact k2
            have hdead : hget (tD ops I s L (fun i => listed.getD i false) ops.size).H k = .dead := by
              rw [agreeH k htch]
              exact hget_out (by omega)
            exact ⟨get_of_hget hkl hdead, n1, fun b c hb => n2 b c (hget_of_get hb)⟩
          apply fin
          unfold Loc2 at hloc
          unfold updC
          cases hc : (I j).c with
          | f => rw [hc] at hloc; exact hloc _ hn2 hag
          | ld k => rw [hc] at hloc; exact hloc.2 _ hn2 hag (agreeH k (by rw [hc]; simp [Cls.tch]))
          | st k => rw [hc] at hloc; exact hloc.2 _ hn2 hag (agreeH k (by rw [hc]; simp [Cls.tch]))
          | nw k =>
            rw [hc] at hloc
            obtain ⟨a1, a2, a3⟩ := fresh k (by rw [hc]; rfl) (by rw [hc]; simp [Cls.tch]) hloc.1.symm
            exact hloc.2 _ hn2 hag a1 a2 a3
          | ap q k =>
            rw [hc] at hloc
            obtain ⟨a1, a2, a3⟩ := fresh k (by rw [hc]; rfl) (by rw [hc]; simp [Cls.tch]) hloc.1.2.symm
            exact hloc.2 _ hn2 hag (agreeH q (by rw [hc]; simp [Cls.tch])) a1 a2 a3
  refine key ops.size (Array.replicate ops.size false) m a w (by simp) ?_ ?_ ?_ hd
  · have : ∀ i ∈ List.range ops.size, (!(Array.replicate ops.size false).getD i true) = true := by
      intro i hi
      have hi : i < ops.size := by simpa using hi
      simp [Array.getD_eq_getD_getElem?, hi]
    rw [List.countP_eq_length.2 this]
    simp
  · intro j o hj
    exfalso
    simp only [Array.getD_eq_getD_getElem?, Array.getElem?_replicate] at hj
    split at hj <;> simp at hj
  · refine (R.pad L).congr (fun t => ?_) ?_ (tD_n _ _)
    · refine tD_get_stay _ t 0 ops.size (Nat.zero_le _) fun i _ hi h => ?_
      simp only [Array.getD_eq_getD_getElem?, Array.getElem?_replicate] at h
      split at h <;> simp at h
    · refine hget_ext (by rw [tD_len]; simp) fun b => ?_
      refine tD_hget_stay _ b 0 ops.size (Nat.zero_le _) fun i _ hi h => ?_
      simp only [Array.getD_eq_getD_getElem?, Array.getElem?_replicate] at h
      split at h <;> simp at h

end

/-! ### The evaluation -/

section
variable {P : Program} {T : TypeId → Option TI}

def allIsP : List AV → Bool
  | [] => true
  | .p _ :: r => allIsP r
  | _ => false
theorem capsA_pure (H H2 : Heap) : ∀ l : List AV, allIsP l = true → capsA H2 l = capsA H l
  | [], _ => rfl
  | x :: r, h => by
    cases x with
    | p v =>
      have ih := capsA_pure H H2 r h
      simp only [capsA, capA, ih]
    | _ => simp [allIsP] at h

/-- The class of an operation, as the state tells it. -/
def clsA (s : St) : Op → Option Cls
  | .load _ x => match s.ev x with | .ptr k _ => some (.ld k) | .p (.ptr _) => some .f | _ => none
  | .store _ x _ => match s.ev x with | .ptr k _ => some (.st k) | _ => none
  | .alloc _ => some (.nw s.H.length)
  | .call { callee := .builtin .append, args, .. } => match args.toList.map s.ev with | [.sl k _ _, .p _] => some (.ap k s.H.length) | _ => none
  | .makeFunc _ _ caps => bif allIsP (caps.toList.map s.ev) then some .f else none
  | op => bif isT op then none else some .f

def blkOf (c : Cls) (H : Heap) : Blk :=
  match c with
  | .st k => hget H k
  | .nw k => hget H k
  | .ap _ k => hget H k
  | _ => .dead

theorem cv_noRef (κ : Nat) (v : Value) : NoRef κ (cv v) := by
  unfold cv; split <;> constructor

theorem appendA_own {ti : TI} {H : Heap} {k lo len : Nat} {v : PV} {r : OV} (h : appendA T ti H (.sl k lo len) (.p v) = some r) :
    ∃ (cc : List AV) (xs : List PV) (V : Prop), hget H k = .own cc ∧ ∀ H2 : Heap, hget H2 k = .own cc → appendA T ti H2 (.sl k lo len) (.p v) = some ⟨V, .sl H2.length 0 (len + xs.length), hset H2 k .dead ++ [.own ((cc.drop lo).take len ++ xs.map .p)]⟩ := by
  unfold appendA at h ⊢
  cases hk : ti.kind with
  | slice e =>
    rw [hk] at h
    simp only at h ⊢
    cases hte : T e with
    | none => rw [hte] at h; cases h
    | some te =>
      rw [hte] at h
      simp only at h ⊢
      cases hg : hget H k with
      | dead => rw [hg] at h; cases v <;> simp [elemsA] at h
      | fro d => rw [hg] at h; cases v <;> simp [elemsA] at h
      | own cc =>
        cases v with
        | list l => exact ⟨cc, l, _, rfl, fun H2 h2 => by simp only [elemsA, h2, List.length_map]; rfl⟩
        | nn l => exact ⟨cc, l, _, rfl, fun H2 h2 => by simp only [elemsA, h2, List.length_map]; rfl⟩
        | nil => exact ⟨cc, [], _, rfl, fun H2 h2 => by simp only [elemsA, h2, List.length_nil, List.map_nil]; rfl⟩
        | _ => rw [hg] at h; simp [elemsA] at h
  | _ => rw [hk] at h; cases h

theorem opA_loc2 (hT : ∀ t ti, T t = some ti → tiOf P t = some ti) {o : Oper} {s : St} {r : OV} {c : Cls} (hc : clsA s o.op = some c) (h : opA T s o.op = some r) (hvc : r.vc) :
    Loc2 P o s ⟨c, r.av, blkOf c r.H, false⟩ ∧ r.H = nxtH ⟨c, r.av, blkOf c r.H, false⟩ s.H := by
  have free : isT o.op = false → c = .f → Loc2 P o s ⟨c, r.av, blkOf c r.H, false⟩ ∧ r.H = nxtH ⟨c, r.av, blkOf c r.H, false⟩ s.H := by
    rintro hf rfl
    refine ⟨?_, (opA_free hf h).1⟩
    intro s2 hn ha
    have h1 := (opA_free hf h).2 s2.H
    have := opA_congr (T := T) (s := { s with H := s2.H }) (s2 := s2) (op := o.op) (fun x hx => by rw [ha x hx]; cases x <;> rfl) rfl
    rw [h1] at this
    exact (opA_does hT this hvc).wp
  generalize hop : o.op = op at *
  cases op with
  | makeFunc fn first caps =>
    simp only [clsA] at hc
    cases hp : allIsP (caps.toList.map s.ev) with
    | false => rw [hp] at hc; cases hc
    | true =>
      rw [hp] at hc
      simp only [cond_true, Option.some.injEq] at hc
      subst hc
      have hr : r.H = s.H := by
        cases fn with
        | func f =>
          simp only [opA] at h
          cases hf : first.isEmpty <;> rw [hf] at h
          · cases h
          · exact makeFuncA_H h
        | _ => simp [opA] at h
      refine ⟨?_, hr⟩
      intro s2 hn ha
      have h2 : opA T s2 o.op = some { r with H := s2.H } := by
        rw [hop]
        have hm : caps.toList.map s2.ev = caps.toList.map s.ev := List.map_congr_left fun x hx => ha x (by rw [hop]; simp only [Op.operands]; simp; right; simpa using hx)
        cases fn with
        | func f =>
          simp only [opA] at h ⊢
          cases hf : first.isEmpty <;> rw [hf] at h
          · cases h
          · simp only [cond_true] at h ⊢
            rw [hm]
            unfold makeFuncA at h ⊢
            rw [capsA_pure s.H s2.H _ hp]
            cases hcp : capsA s.H (caps.toList.map s.ev) with
            | none => rw [hcp] at h; cases h
            | some x => rw [hcp] at h; obtain ⟨p1, l1⟩ := x; simp only [Option.some.injEq] at h ⊢; subst h; rfl
        | _ => simp [opA] at h
      exact (opA_does hT h2 hvc).wp
  | load t x =>
    simp only [clsA] at hc
    simp only [opA] at h
    cases hti : T t with
    | none => rw [hti] at h; cases h
    | some ti =>
      rw [hti] at h
      simp only at h
      have hx : ∀ s2 : St, Agree o s s2 → s2.ev x = s.ev x := fun s2 ha => ha x (by rw [hop]; simp [Op.operands])
      cases hev : s.ev x with
      | ptr k i =>
        rw [hev] at hc h
        simp only [Option.some.injEq] at hc
        subst hc
        have hkl : k < s.H.length := by
          simp only [loadA] at h
          cases hg : hget s.H k with
          | dead => rw [hg] at h; cases h
          | own d => exact (List.getElem?_eq_some_iff.1 (hget_mut hg)).1
          | fro d => exact (List.getElem?_eq_some_iff.1 (hget_fro hg)).1
        refine ⟨⟨hkl, fun s2 hn ha hH => ?_⟩, loadA_H h⟩
        have h2 : opA T s2 o.op = some { r with H := s2.H } := by
          rw [hop]
          simp only [opA, hti, hx s2 ha, hev]
          simp only [loadA] at h ⊢
          rw [hH]
          cases hg : hget s.H k with
          | dead => rw [hg] at h; cases h
          | own d => rw [hg] at h; cases hr : isRow ti.kind <;> rw [hr] at h <;> simp only [cond_true, cond_false, Option.some.injEq] at h ⊢ <;> subst h <;> rfl
          | fro d => rw [hg] at h; cases hr : isRow ti.kind <;> rw [hr] at h <;> simp only [cond_true, cond_false, Option.some.injEq] at h ⊢ <;> subst h <;> rfl
        exact (opA_does hT h2 hvc).wp
      | p v =>
        rw [hev] at hc h
        cases v with
        | ptr d =>
          simp only [Option.some.injEq] at hc
          subst hc
          refine ⟨?_, loadA_H h⟩
          intro s2 hn ha
          have h2 : opA T s2 o.op = some { r with H := s2.H } := by
            rw [hop]
            simp only [opA, hti, hx s2 ha, hev]
            simp only [loadA] at h ⊢
            cases hr : isRow ti.kind <;> rw [hr] at h <;> simp only [cond_true, cond_false, Option.some.injEq] at h ⊢ <;> subst h <;> rfl
          exact (opA_does hT h2 hvc).wp
        | _ => cases hc
      | _ => rw [hev] at hc; cases hc
  | store t x v =>
    simp only [clsA] at hc
    simp only [opA] at h
    cases hti : T t with
    | none => rw [hti] at h; cases h
    | some ti =>
      rw [hti] at h
      simp only at h
      have hx : ∀ s2 : St, Agree o s s2 → s2.ev x = s.ev x := fun s2 ha => ha x (by rw [hop]; simp [Op.operands])
      have hv : ∀ s2 : St, Agree o s s2 → s2.ev v = s.ev v := fun s2 ha => ha v (by rw [hop]; simp [Op.operands])
      cases hev : s.ev x with
      | ptr k i =>
        rw [hev] at hc h
        simp only [Option.some.injEq] at hc
        subst hc
        simp only [storeA] at h
        cases hg : hget s.H k with
        | dead => rw [hg] at h; cases h
        | fro d => rw [hg] at h; cases h
        | own d =>
          rw [hg] at h
          simp only [Option.some.injEq] at h
          have hkl : k < s.H.length := (List.getElem?_eq_some_iff.1 (hget_mut hg)).1
          have hb : hget r.H k = .own (setC d i (s.ev v).cells) := by
            rw [← h]; simp only; rw [hget_hset_same _ _ _ hkl]
          refine ⟨⟨hkl, fun s2 hn ha hH => ?_⟩, ?_⟩
          · have h2 : opA T s2 o.op = some { r with H := hset s2.H k (.own (setC d i (s.ev v).cells)) } := by
              rw [hop]
              simp only [opA, hti, hx s2 ha, hv s2 ha, hev, storeA, hH, hg]
              rw [← h]
            simp only [blkOf]
            rw [hb]
            exact (opA_does hT h2 hvc).wp
          · simp only [nxtH, blkOf]
            rw [hb, ← h]
      | p v => rw [hev] at hc; cases hc
      | dead => rw [hev] at hc; cases hc
      | sl _ _ _ => rw [hev] at hc; cases hc
      | agg _ => rw [hev] at hc; cases hc
      | tup _ => rw [hev] at hc; cases hc
  | alloc t =>
    simp only [clsA, Option.some.injEq] at hc
    subst hc
    simp only [opA] at h
    cases hti : T t with
    | none => rw [hti] at h; cases h
    | some ti =>
      rw [hti] at h
      simp only [Option.some.injEq] at h
      have hb : hget r.H s.H.length = .own (ti.zero.map cv) := by
        rw [← h]; simp only [allocA]; rw [hget_app2 (Nat.le_refl _), Nat.sub_self]; rfl
      refine ⟨⟨rfl, fun s2 hn ha hd n1 n2 => ?_⟩, ?_⟩
      · simp only [blkOf]
        rw [hb]
        have hav : r.av = .ptr s.H.length 0 := by rw [← h]; rfl
        rw [hav]
        have hvc' : (allocA ti s2.H).vc := by
          have : (allocA ti s.H).vc := by rw [h]; exact hvc
          exact this
        refine Does.wp fun C m a w R => ?_
        obtain ⟨v, w', m', hy, R', hv⟩ := allocA_does hT R (o := o) hop hti hvc'
        obtain ⟨g1, g2, _⟩ := Rel.move R (b := .own (ti.zero.map cv)) R' hd n1 n2 fun c hc i hi => by
          cases hc
          rw [List.getElem_map]
          exact ⟨cv_noRef _ _, cv_noRef _ _⟩
        exact ⟨v, w', _, hy, g1, g2 0 v hv⟩
      · simp only [nxtH, blkOf]
        rw [hb, ← h]; rfl
  | call c' =>
    obtain ⟨callee, args, ts⟩ := c'
    have other : clsA s (.call ⟨callee, args, ts⟩) = (bif isT (.call ⟨callee, args, ts⟩) then none else some .f) → Loc2 P o s ⟨c, r.av, blkOf c r.H, false⟩ ∧ r.H = nxtH ⟨c, r.av, blkOf c r.H, false⟩ s.H := by
      intro e
      rw [e] at hc
      cases hf : isT (.call ⟨callee, args, ts⟩) with
      | true => rw [hf] at hc; cases hc
      | false => rw [hf] at hc; exact free hf (by simpa using hc.symm)
    cases callee with
    | builtin b =>
      cases b with
      | append =>
        simp only [clsA] at hc
        split at hc <;> simp only [Option.some.injEq, reduceCtorEq] at hc
        rename_i k lo len v hl
        subst hc
        have hev : ∀ s2 : St, Agree o s s2 → args.toList.map s2.ev = [.sl k lo len, .p v] := by
          intro s2 ha
          rw [← hl]
          exact List.map_congr_left fun x hx => ha x (by rw [hop]; simp [Op.operands, Call.operands]; simpa using hx)
        simp only [opA] at h
        rw [hl] at h
        obtain ⟨t, ti, hts, hti, h⟩ : ∃ t ti, ts.toList = [t, t] ∧ T t = some ti ∧ appendA T ti s.H (.sl k lo len) (.p v) = some r := by
          unfold builtinA at h
          split at h <;> simp only [reduceCtorEq] at *
          rename_i a1 a2 sv xv t t' ea e2 e3
          simp only [List.cons.injEq, and_true] at ea
          obtain ⟨rfl, rfl⟩ := ea
          cases hti : T t with
          | none => rw [hti] at h; cases h
          | some ti =>
            rw [hti] at h
            simp only at h
            by_cases ht : t = t'
            · rw [if_pos ht] at h; subst ht; exact ⟨t, ti, e2, hti, h⟩
            · rw [if_neg ht] at h; cases h
        obtain ⟨cc, xs, V, hg, hall⟩ := appendA_own h
        have hr : r = ⟨V, .sl s.H.length 0 (len + xs.length), hset s.H k .dead ++ [.own ((cc.drop lo).take len ++ xs.map .p)]⟩ := by
          have := hall s.H hg
          rw [h] at this
          exact Option.some.inj this
        have hkl : k < s.H.length := (List.getElem?_eq_some_iff.1 (hget_mut hg)).1
        have hb : hget r.H s.H.length = .own ((cc.drop lo).take len ++ xs.map .p) := by
          rw [hr]; simp only; rw [hget_app2 (by rw [hset_length]; exact Nat.le_refl _), hset_length, Nat.sub_self]; rfl
        have hV : V := by rw [hr] at hvc; exact hvc
        refine ⟨⟨⟨hkl, rfl⟩, fun s2 hn ha hH hd n1 n2 => ?_⟩, ?_⟩
        · simp only [blkOf]
          rw [hb, hr]
          rw [hg] at hH
          have h2 : opA T s2 o.op = some ⟨V, .sl s2.H.length 0 (len + xs.length), hset s2.H k .dead ++ [.own ((cc.drop lo).take len ++ xs.map .p)]⟩ := by
            rw [hop]
            simp only [opA]
            rw [hev s2 ha, hts]
            simp only [builtinA, hti, if_true]
            exact hall s2.H hH
          have hkne : k ≠ s.H.length := by omega
          have hdd : (hset s2.H k .dead)[s.H.length]? = some .dead := by
            rw [hset_get, if_neg (fun hh => hkne hh.1.symm)]; exact hd
          refine Does.wp fun C m a w R => ?_
          obtain ⟨v', w', m', hy, R', hv⟩ := opA_does hT h2 hV C m a w R
          have hlen : (hset s2.H k .dead).length = s2.H.length := hset_length _ _ _
          have hown : ∀ (j : Nat) (c : List AV), (hset s2.H k .dead)[j]? = some (Blk.own c) → s2.H[j]? = some (Blk.own c) := by
            intro j c hj
            rw [hset_get] at hj
            by_cases e : j = k ∧ k < s2.H.length
            · rw [if_pos e] at hj; cases hj
            · rw [if_neg e] at hj; exact hj
          obtain ⟨g1, _, g2⟩ := Rel.move (s := { s2 with H := hset s2.H k .dead }) (R.kill k) (b := .own ((cc.drop lo).take len ++ xs.map .p)) R' hdd n1 (fun j c hj => n2 j c (hown j c hj)) fun c hc i hi => by
            cases hc
            have hcc := hget_mut hH
            by_cases hlt : i < ((cc.drop lo).take len).length
            · rw [List.getElem_append_left hlt]
              simp only [List.getElem_take, List.getElem_drop]
              have hi2 : lo + i < cc.length := by
                simp only [List.length_take, List.length_drop] at hlt; omega
              refine ⟨n2 k cc hcc _ hi2, ?_⟩
              simp only [hlen]
              rcases R.blk k cc hcc with ⟨b1, _⟩ | ⟨l2, cur2, e2, _, _, _, _, _, _, b7⟩
              · subst b1; simp at hi2
              · exact (b7 _ hi2).noRef (Nat.le_refl _)
            · rw [List.getElem_append_right (by omega), List.getElem_map]
              exact ⟨.p _, .p _⟩
          simp only [hlen] at g1 g2 hv
          exact ⟨v', w', _, hy, g1, g2 _ _ v' hv⟩
        · simp only [nxtH, blkOf]
          rw [hb, hr]
      | _ => exact other rfl
    | _ => exact other rfl
  | _ => simp only [clsA] at hc; first | (simp only [isT, cond_true, cond_false, Option.some.injEq, reduceCtorEq] at hc; done) | exact free rfl (by simpa [isT] using hc.symm)

inductive X2 where
  | run (vc : Prop) (s : St) (acc : List I2)
  | stop (vc : Prop) (rest : List Oper) (s : St) (acc : List I2)

def xstep2 (T : TypeId → Option TI) (all : Array Oper) (o : Oper) (rest : List Oper) (vc : Prop) (s : St) (acc : List I2) : X2 :=
  match guardA all s o with
  | some true =>
    match clsA s o.op, opA T s o.op with
    | some c, some r => .run (vc ∧ dstOk s o.dst ∧ r.vc) (after o s r) (acc ++ [⟨c, r.av, blkOf c r.H, false⟩])
    | _, _ => .stop vc (o :: rest) s acc
  | some false => .run (vc ∧ dstOk s o.dst) (s.put o.dst .dead) (acc ++ [⟨.f, .dead, .dead, false⟩])
  | none => .stop vc (o :: rest) s acc

def aops2 (T : TypeId → Option TI) (all : Array Oper) : List Oper → X2 → X2
  | [], x => x
  | o :: r, .run vc s acc => aops2 T all r (xstep2 T all o r vc s acc)
  | _ :: _, .stop vc rest s acc => .stop vc rest s acc

def Runs2 (P : Program) (all : Array Oper) (rest : List Oper) (K : St → List I2 → Prop) (s : St) (acc : List I2) : Prop := ∃ s' xs, Run2 P all rest xs s s' ∧ K s' (acc ++ xs)

def fin2 (P : Program) (all : Array Oper) (K : St → List I2 → Prop) : X2 → Prop
  | .run vc s acc => vc ∧ K s acc
  | .stop vc rest s acc => vc ∧ Runs2 P all rest K s acc

theorem aops2_stop (all : Array Oper) (l : List Oper) (vc : Prop) (rest : List Oper) (s : St) (acc : List I2) : aops2 T all l (.stop vc rest s acc) = .stop vc rest s acc := by cases l <;> rfl

theorem aops2_sound (hT : ∀ t ti, T t = some ti → tiOf P t = some ti) {all : Array Oper} {K : St → List I2 → Prop} : ∀ (ops : List Oper) (vc : Prop) (s : St) (acc : List I2), fin2 P all K (aops2 T all ops (.run vc s acc)) → vc ∧ Runs2 P all ops K s acc
  | [], vc, s, acc, h => ⟨h.1, s, [], .nil s, by rw [List.append_nil]; exact h.2⟩
  | o :: r, vc, s, acc, h => by
    simp only [aops2, xstep2] at h
    split at h
    · rename_i hg
      split at h
      · rename_i c ov hcl hov
        obtain ⟨⟨h1, h2, h3⟩, s', xs, hr, hK⟩ := aops2_sound hT r _ _ _ h
        obtain ⟨g1, g2⟩ := opA_loc2 hT hcl hov h3
        refine ⟨h1, s', _ :: xs, .op hg (dstOk_spec h2) g1 (fun h => by cases h) ?_, by rw [List.append_assoc] at hK; exact hK⟩
        rw [← g2]
        exact hr
      · rw [aops2_stop] at h; exact h
    · rename_i hg
      obtain ⟨⟨h1, h2⟩, s', xs, hr, hK⟩ := aops2_sound hT r _ _ _ h
      exact ⟨h1, s', _ :: xs, .skip hg (dstOk_spec h2) hr, by rw [List.append_assoc] at hK; exact hK⟩
    · rw [aops2_stop] at h; exact h

/-- THE WORD OF THE WALK, for a region that draws. -/
theorem runs2_eval (hT : ∀ t ti, T t = some ti → tiOf P t = some ti) {all : Array Oper} {rest : List Oper} {K : St → List I2 → Prop} {s : St} {acc : List I2} (h : fin2 P all K (aops2 T all rest (.run True s acc))) : Runs2 P all rest K s acc :=
  (aops2_sound hT rest True s acc h).2

def isP : AV → Bool
  | .p _ => true
  | _ => false

/-- A call with pure arguments, in a region that draws. -/
theorem runs2_call {all : Array Oper} {rest : List Oper} {K : St → List I2 → Prop} {acc : List I2} {s : St} {dst : Option Tmp} {ty : TypeId} {pos : String} {aft : Array Edge} {gd : Option (Nat × Bool)} {fo : Operand} {args : Array Operand} {ts : Array TypeId} {g : FuncId} {as : List PV} {p : Prop} {b : Bool} {r : PV}
    (hc : FnC P g as r) (hg : guardA all s { dst := dst, op := .call { callee := .value fo, args := args, argTypes := ts }, type := ty, pos := pos, after := aft, guard := gd } = some true)
    (hcall : callA s fo args = some (g, as, p, b)) (hb : (b || r.flatOnly) = true) (hpure : args.toList.all (fun x => isP (s.ev x)) = true) (hd : dstOk s dst) (hp : p) (h : Runs2 P all rest K (s.put dst (.p r)) (acc ++ [⟨.f, .p r, .dead, false⟩])) :
    Runs2 P all ({ dst := dst, op := .call { callee := .value fo, args := args, argTypes := ts }, type := ty, pos := pos, after := aft, guard := gd } :: rest) K s acc := by
  obtain ⟨s', xs, hr, hK⟩ := h
  refine ⟨s', ⟨.f, .p r, .dead, false⟩ :: xs, .op hg (dstOk_spec hd) ?_ (fun h => by cases h) hr, by rw [List.append_assoc] at hK; exact hK⟩
  intro s2 hn ha
  have ha' : ∀ x ∈ (Op.call { callee := .value fo, args := args, argTypes := ts }).operands, s2.ev x = s.ev x := ha
  simp only [Op.operands, Call.operands] at ha'
  have h1 : s2.ev fo = s.ev fo := ha' fo (by simp)
  have h2 : args.toList.map s2.ev = args.toList.map s.ev := List.map_congr_left fun x hx => ha' x (by simp; right; simpa using hx)
  have h3 : ∀ l : List AV, l.all isP = true → peekList (peekG s2.H) l = peekList (peekG s.H) l := by
    intro l
    induction l with
    | nil => intro _; rfl
    | cons x l ih =>
      intro hl
      simp only [List.all_cons, Bool.and_eq_true] at hl
      simp only [peekList]
      rw [ih hl.2]
      cases x with
      | p v => rfl
      | _ => simp [isP] at hl
  have : callA s2 fo args = some (g, as, p, b) := by
    rw [← hcall]
    unfold callA
    rw [h1, h2, h3 _ (by rw [List.all_map]; exact hpure)]
  exact call_does rfl hc this hp hb

theorem callA_pure {s s2 : St} {fo : Operand} {args : Array Operand} (ts : Array TypeId) (ha : ∀ x ∈ (Op.call { callee := .value fo, args := args, argTypes := ts }).operands, s2.ev x = s.ev x) (h : ∀ x ∈ args.toList, peekG s2.H (s.ev x) = peekG s.H (s.ev x)) : callA s2 fo args = callA s fo args := by
  simp only [Op.operands, Call.operands] at ha
  have h1 : s2.ev fo = s.ev fo := ha fo (by simp)
  have h2 : args.toList.map s2.ev = args.toList.map s.ev := List.map_congr_left fun x hx => ha x (by simp; right; simpa using hx)
  have h3 : ∀ l : List Operand, (∀ x ∈ l, peekG s2.H (s.ev x) = peekG s.H (s.ev x)) → peekList (peekG s2.H) (l.map s.ev) = peekList (peekG s.H) (l.map s.ev) := by
    intro l
    induction l with
    | nil => intro _; rfl
    | cons x l ih =>
      intro hl
      simp only [List.map_cons, peekList]
      rw [ih fun y hy => hl y (by simp [hy]), hl x (by simp)]
  unfold callA
  rw [h1, h2, h3 _ h]

def isPk (k : Nat) : AV → Bool
  | .p _ => true
  | .sl j _ _ => j == k
  | _ => false

/-- A call that reads a row of the call's own, in a region that draws. -/
theorem runs2_callS {all : Array Oper} {rest : List Oper} {K : St → List I2 → Prop} {acc : List I2} {s : St} {dst : Option Tmp} {ty : TypeId} {pos : String} {aft : Array Edge} {gd : Option (Nat × Bool)} {fo : Operand} {args : Array Operand} {ts : Array TypeId} {g : FuncId} {as : List PV} {p : Prop} {b : Bool} {r : PV} (k : Nat)
    (hc : FnC P g as r) (hg : guardA all s { dst := dst, op := .call { callee := .value fo, args := args, argTypes := ts }, type := ty, pos := pos, after := aft, guard := gd } = some true)
    (hcall : callA s fo args = some (g, as, p, b)) (hb : (b || r.flatOnly) = true) (hpure : args.toList.all (fun x => isPk k (s.ev x)) = true) (hk : k < s.H.length) (hd : dstOk s dst) (hp : p) (h : Runs2 P all rest K (s.put dst (.p r)) (acc ++ [⟨.ld k, .p r, .dead, false⟩])) :
    Runs2 P all ({ dst := dst, op := .call { callee := .value fo, args := args, argTypes := ts }, type := ty, pos := pos, after := aft, guard := gd } :: rest) K s acc := by
  obtain ⟨s', xs, hr, hK⟩ := h
  refine ⟨s', ⟨.ld k, .p r, .dead, false⟩ :: xs, .op hg (dstOk_spec hd) ⟨hk, ?_⟩ (fun h => by cases h) hr, by rw [List.append_assoc] at hK; exact hK⟩
  intro s2 hn ha hH
  have : callA s2 fo args = some (g, as, p, b) := by
    rw [← hcall]
    refine callA_pure ts ha fun x hx => ?_
    have := (List.all_eq_true.1 hpure) x hx
    cases hev : s.ev x with
    | p v => rfl
    | sl j lo len =>
      rw [hev] at this
      have hj : j = k := by simpa [isPk] using this
      subst hj
      simp only [peekG, peekS, hH]
    | _ => rw [hev] at this; simp [isPk] at this
  exact call_does rfl hc this hp hb

/-- A call that hands out one row of its own, in a region that draws. -/
theorem runs2_callG {all : Array Oper} {rest : List Oper} {K : St → List I2 → Prop} {acc : List I2} {s : St} {dst : Option Tmp} {ty : TypeId} {pos : String} {aft : Array Edge} {gd : Option (Nat × Bool)} {fo : Operand} {args : Array Operand} {ts : Array TypeId} {g : FuncId} {as : List PV} {p : Prop} {len : Nat} {l : List PV}
    (hc : FnG P g as (.sl 0 0 len) [.own (opl l)]) (hg : guardA all s { dst := dst, op := .call { callee := .value fo, args := args, argTypes := ts }, type := ty, pos := pos, after := aft, guard := gd } = some true)
    (hcall : callA s fo args = some (g, as, p, true)) (hpure : args.toList.all (fun x => isP (s.ev x)) = true) (hd : dstOk s dst) (hp : p)
    (h : Runs2 P all rest K (({ s with H := s.H ++ [.own (opl l)] } : St).put dst (.sl s.H.length 0 len)) (acc ++ [⟨.nw s.H.length, .sl s.H.length 0 len, .own (opl l), true⟩])) :
    Runs2 P all ({ dst := dst, op := .call { callee := .value fo, args := args, argTypes := ts }, type := ty, pos := pos, after := aft, guard := gd } :: rest) K s acc := by
  obtain ⟨s', xs, hr, hK⟩ := h
  refine ⟨s', ⟨.nw s.H.length, .sl s.H.length 0 len, .own (opl l), true⟩ :: xs, .op hg (dstOk_spec hd) ⟨rfl, ?_⟩ (fun _ c hc q hq κ => by
    cases hc
    have e : ∃ v, (opl l)[q] = .p v := ⟨l[q]'(by simpa [opl] using hq), by simp [opl]⟩
    obtain ⟨v, e⟩ := e
    rw [e]
    exact .p _) hr, by rw [List.append_assoc] at hK; exact hK⟩
  intro s2 hn ha hdd n1 n2
  have hcall2 : callA s2 fo args = some (g, as, p, true) := by
    rw [← hcall]
    refine callA_pure ts ha fun x hx => ?_
    have := (List.all_eq_true.1 hpure) x hx
    cases hev : s.ev x with
    | p v => rfl
    | _ => rw [hev] at this; simp [isP] at this
  have hdo := call_doesG (P := P) (s := s2) (o := { dst := dst, op := .call { callee := .value fo, args := args, argTypes := ts }, type := ty, pos := pos, after := aft, guard := gd }) rfl hc hcall2 hp (by simp [scG, scA, sc1, opl_sc])
  have e1 : Go.Pv.ren (shf s2.H.length [Blk.own (opl l)].length) (.sl 0 0 len) = .sl s2.H.length 0 len := rfl
  have e2 : s2.H ++ [Blk.own (opl l)].map (Blk.ren (shf s2.H.length [Blk.own (opl l)].length)) = s2.H ++ [.own (opl l)] := by
    simp only [List.map_cons, List.map_nil, Blk.ren, opl_ren]
  rw [e1, e2] at hdo
  intro C m a w K Q R hK
  refine hdo C m a w K Q R fun v m' w' R' hv => ?_
  obtain ⟨g1, _, g2⟩ := Rel.move R (b := .own (opl l)) R' hdd n1 n2 fun c hc i hi => by
    cases hc
    have e : ∃ v, (opl l)[i] = .p v := ⟨l[i]'(by simpa [opl] using hi), by simp [opl]⟩
    obtain ⟨v, e⟩ := e
    rw [e]
    exact ⟨.p _, .p _⟩
  exact hK v _ w' g1 (g2 _ _ v hv)

theorem fin2_run {all : Array Oper} {K : St → List I2 → Prop} {vc : Prop} {s : St} {acc : List I2} (h1 : vc) (h2 : K s acc) : fin2 P all K (.run vc s acc) := ⟨h1, h2⟩
theorem fin2_stop {all : Array Oper} {K : St → List I2 → Prop} {vc : Prop} {r : List Oper} {s : St} {acc : List I2} (h1 : vc) (h2 : Runs2 P all r K s acc) : fin2 P all K (.stop vc r s acc) := ⟨h1, h2⟩

/-- Roads that meet at a block's end: what is known where they meet. -/
theorem hk_cutB {Q Q2 : Exit → St → Prop} {s : St} {id : Nat} {x y : Code} (S : St) (h1 : Holds P x (InB id (fun e s' => e = .normal ∧ ∃ π, Le π S s')) s) (h2 : Holds P y Q2 S) : Holds P x (InB id (Thn (Holds P y Q2) Q)) s := by
  refine hk_mono (fun e s' h => ?_) h1
  have key : ∀ e s', (e = Exit.normal ∧ ∃ π, Le π S s') → Thn (Holds P y Q2) Q e s' := by
    rintro e s' ⟨rfl, π, hle⟩
    exact hk_le π hle h2
  cases e with
  | exit j =>
    by_cases hj : j = id
    · subst hj
      have h' : (Exit.normal = Exit.normal ∧ ∃ π, Le π S s') := by simpa [InB] using h
      have := key _ _ h'
      simpa [InB] using this
    · simp [InB, hj] at h
  | _ => exact key _ _ h

theorem hk_draw2 {Q : Exit → St → Prop} {s : St} {id : Nat} {l : List Oper} (hm : P.follows .mixedOrders = true) (h : ∀ K : St → List I2 → Prop, (∀ s' xs, draw2OK l.toArray xs = true → Q .normal s' → K s' xs) → Runs2 P l.toArray l K s []) : Holds P (.region id l.toArray true) Q s := by
  intro C m a w R hd
  obtain ⟨s', xs, hr, hK⟩ := h (fun s' xs => draw2OK l.toArray xs = true ∧ Q .normal s') fun _ _ h1 h2 => ⟨h1, h2⟩
  rw [List.nil_append] at hK
  refine wp_region_any hm ?_
  exact draw2_sound hK.1 (by simpa using hr) (R.later ⟨rfl, rfl, rfl, Nat.le_refl _, fun _ _ => rfl⟩) hd fun m' a' w' R' hd' => ⟨s', m', hK.2, R', hd'⟩

end

def evD := And.intro @aops2.eq_1
  <| And.intro @aops2.eq_2
  <| And.intro @aops2.eq_3
  <| And.intro @xstep2.eq_1
  <| And.intro @clsA.eq_1
  <| And.intro @clsA.eq_2
  <| And.intro @clsA.eq_3
  <| And.intro @clsA.eq_4
  <| And.intro @clsA.eq_5
  <| And.intro @clsA.eq_6
  <| And.intro @allIsP.eq_1
  <| And.intro @allIsP.eq_2
  <| And.intro @blkOf.eq_1
  <| And.intro @blkOf.eq_2
  <| And.intro @blkOf.eq_3
  <| And.intro @blkOf.eq_4
  <| And.intro @isT.eq_1
  <| And.intro @isT.eq_2
  <| And.intro @isT.eq_3
  <| And.intro @isT.eq_4
  <| And.intro @isT.eq_5
  <| And.intro @isT.eq_6
  <| And.intro @isT.eq_7
  <| And.intro @isT.eq_8
  <| And.intro @isT.eq_9
  <| And.intro @isT.eq_10
  <| And.intro @isT.eq_11
  <| And.intro @isT.eq_12
  <| And.intro @isT.eq_13
  <| And.intro @isT.eq_14
  <| And.intro @isT.eq_15
  <| And.intro @isT.eq_16
  <| And.intro @isT.eq_17
  <| And.intro @isP.eq_1
  <| And.intro @isP.eq_2
  <| And.intro @isPk.eq_1
  <| And.intro @isPk.eq_2
  <| And.intro @isPk.eq_3
  <| And.intro @cond_true.{0}
  <| @cond_false.{0}

end Go.Pv
