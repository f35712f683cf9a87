/-
  Texts of this proof, one behind the other: what each says stands at its head. Conditions: none.
-/
import Derived.Test.YtboadfahlflmhaaB4
import Derived.Maps.RangeRun
import Derived.RangeFuncRecord
import Derived.RangeFuncLeaves
import Derived.Test.YtboadfahlflmhaaB5
import Derived.Shelf.SlSortCmp.Whole1
import Derived.Test.YtboadfahlflmhaaProg
import Derived.Shelf.SlLaysF
import Derived.Lib.SliceRun

/-
  Calls that write what is the caller's own: contracts over blocks. Conditions: none; a library text.
-/
set_option linter.all false
namespace Go.Pv
open Go.RowKit

def ancs : Nat → Nat → Heap
  | _, 0 => []
  | k, n + 1 => .anc k k :: ancs (k + 1) n

theorem ancs_get : ∀ (n k j : Nat) (b : Blk), (ancs k n)[j]? = some b → j < n ∧ b = .anc (k + j) (k + j)
  | 0, k, j, b, h => by simp [ancs] at h
  | n + 1, k, 0, b, h => by simp [ancs] at h; exact ⟨by omega, h.symm⟩
  | n + 1, k, j + 1, b, h => by
    have := ancs_get n (k + 1) j b (by simpa [ancs] using h)
    refine ⟨by omega, ?_⟩
    rw [this.2, show k + 1 + j = k + (j + 1) by omega]

theorem ancs_at : ∀ (n k j : Nat), j < n → (ancs k n)[j]? = some (.anc (k + j) (k + j))
  | n + 1, k, 0, _ => rfl
  | n + 1, k, j + 1, h => by
    rw [show ancs k (n + 1) = .anc k k :: ancs (k + 1) n from rfl, List.getElem?_cons_succ, ancs_at n (k + 1) j (by omega), show k + 1 + j = k + (j + 1) by omega]

theorem ancs_length : ∀ (n k : Nat), (ancs k n).length = n
  | 0, _ => rfl
  | n + 1, k => by simp [ancs, ancs_length n]

def entA : Nat → List AV → List (Nat × AV)
  | _, [] => []
  | k, a :: r => (k, a) :: entA (k + 1) r

theorem entA_lk : ∀ (l : List AV) (k t : Nat), lk (entA k l) t = if k ≤ t then l.getD (t - k) .dead else .dead
  | [], k, t => by simp [entA, lk]
  | a :: r, k, t => by
    simp only [entA, lk]
    by_cases h : k = t
    · subst h; simp
    · rw [show (k == t) = false by simpa using h]
      simp only [cond_false]
      rw [entA_lk r (k + 1) t]
      by_cases hk : k ≤ t
      · rw [if_pos (by omega), if_pos hk, show t - k = (t - (k + 1)) + 1 by omega]; rfl
      · rw [if_neg (by omega), if_neg hk]

theorem app_get {H X : Heap} {k : Nat} {b : Blk} (h : (H ++ X)[k]? = some b) : (k < H.length ∧ H[k]? = some b) ∨ X[k - H.length]? = some b := by
  by_cases hk : k < H.length
  · exact .inl ⟨hk, by rwa [List.getElem?_append_left hk] at h⟩
  · exact .inr (by rwa [List.getElem?_append_right (by omega)] at h)

section
variable {P : Program} {T : TypeId → Option TI} {C : Ctx} {m : Map} {s : St} {tmps : Array Value} {w : World}

theorem Rel.addAnc (R : Rel C m s tmps w) {n : Nat} (hn : n ≤ s.H.length) (ha : ∀ i, i < n → m i = C.anc i) : Rel C m { s with H := s.H ++ ancs 0 n } tmps w := by
  have gen : ∀ (k : Nat) (b : Blk), (∀ i j, b ≠ .anc i j) → (s.H ++ ancs 0 n)[k]? = some b → k < s.H.length ∧ s.H[k]? = some b := by
    intro k b hb h
    rcases app_get h with h | h
    · exact h
    · exact absurd (ancs_get _ _ _ _ h).2 (hb _ _)
  have own : ∀ (k : Nat) (c : List AV), (s.H ++ ancs 0 n)[k]? = some (.own c) → k < s.H.length ∧ s.H[k]? = some (.own c) := fun k c h => gen k _ (fun _ _ h => by cases h) h
  have mps : ∀ (k : Nat) (kk : IntKind) (d : Int → Bool) (v : Int → PV), (s.H ++ ancs 0 n)[k]? = some (Blk.mp kk d v) → k < s.H.length ∧ s.H[k]? = some (Blk.mp kk d v) := fun k _ _ _ h => gen k _ (fun _ _ h => by cases h) h
  have ho : ∀ b, OK C m s.H w b → OK C m (s.H ++ ancs 0 n) w b := fun b h => ⟨h.1, h.2.1, fun k c l hk hl => h.2.2 k c l (own k c hk).2 hl⟩
  have hlen : s.H.length ≤ (s.H ++ ancs 0 n).length := by simp
  have rd : ∀ p v, Reads (OK C m s.H w) w p v → Reads (OK C m (s.H ++ ancs 0 n) w) w p v := fun p v h => h.mono ho
  refine ⟨R.laid.ext rd, R.below, R.base, R.size, fun k k' c c' l l' h1 h2 => R.inj k k' c c' l l' (own k c h1).2 (own k' c' h2).2, fun k c h => (R.blk k c (own k c h).2).ext rd hlen (fun _ _ => rfl) rfl fun _ _ => rfl,
    fun k c h => (R.fro k c (gen k _ (fun _ _ h => by cases h) h).2).ext ho (fun _ _ => rfl) rfl, fun t => (R.slot t).ext rd hlen fun _ _ => rfl, fun k kk d v h => (R.mp.1 k kk d v (mps k kk d v h).2).ext ho (fun _ _ => rfl) rfl fun _ _ => rfl,
    fun k k' kk d v kk' d' v' l l' h1 h2 => R.mp.2.1 k k' kk d v kk' d' v' l l' (mps _ _ _ _ h1).2 (mps _ _ _ _ h2).2, fun k i j h => ?_, R.mp.2.2.2.ext id (fun k r h => ⟨(gen k _ (fun _ _ h => by cases h) h).2, rfl⟩) (fun _ _ _ _ _ _ h => h) (fun _ _ _ _ _ _ => rfl) fun _ _ _ _ _ h => h⟩
  rcases app_get h with h | h
  · obtain ⟨a1, a2⟩ := R.mp.2.2.1 k i j h.2
    exact ⟨by simp; omega, a2⟩
  · obtain ⟨a1, a2⟩ := ancs_get _ _ _ _ h
    cases a2
    refine ⟨by simp; omega, ?_⟩
    rw [ha _ (by omega)]

/-! ### The contract -/

/-- A CONTRACT OVER BLOCKS: called with values that are so over such blocks of the caller's own, the function returns so, over those blocks as they are then, and new ones. -/
def FnM (P : Program) (f : FuncId) (args : List AV) (H0 : Heap) (r : AV) (H1 : Heap) : Prop :=
  Fun P f ∧ ∀ (C : Ctx) (m : Map) (w : World) (vals : Array Value), Rel C m ⟨args.length, entA 0 args, H0 ++ ancs 0 H0.length⟩ vals w →
    Calls P f vals w fun e w' => ∃ v m', e = .returned v ∧ Rel C m' ⟨1, [(0, r)], H1 ++ ancs 0 H0.length⟩ #[v] w'

theorem fnm_of (hT : ∀ t ti, T t = some ti → tiOf P t = some ti) {f : FuncId} {fn : Func} {c : Code} {args : List AV} {av : AV} {H0 H1 : Heap} (hf : P.funcs[f]? = some fn) (hb : fn.body = some c) (hnm : (fn.name == "runtime.NumGoroutine") = false) (hn : args.length ≤ fn.ntmps)
    (h : Holds P c (PostG T fn.results.toList av (H1 ++ ancs 0 H0.length)) ⟨fn.ntmps, entA 0 args, H0 ++ ancs 0 H0.length⟩) : FnM P f args H0 av H1 := by
  refine ⟨⟨fn, hf, hnm, by rw [hb]; rfl⟩, fun C m w vals R0 => calls_of_wp hf hb (wpR_none.1 ?_)⟩
  have hsz : vals.size = args.length := R0.size
  have R : Rel C m ⟨fn.ntmps, entA 0 args, H0 ++ ancs 0 H0.length⟩ (vals ++ Array.replicate (fn.ntmps - vals.size) undef) w := by
    refine ⟨R0.laid, R0.below, R0.base, by simp; omega, R0.inj, R0.blk, R0.fro, fun t => ?_, R0.mp⟩
    have hs := R0.slot t
    by_cases ht : t < vals.size
    · rw [Array.getD_eq_getD_getElem?, Array.getElem?_append_left ht, ← Array.getD_eq_getD_getElem?]
      exact hs
    · have e : lk (entA 0 args) t = .dead := by
        rw [entA_lk, if_pos (Nat.zero_le _), List.getD_eq_getElem?_getD, List.getElem?_eq_none (by omega)]; rfl
      unfold St.get
      simp only
      rw [e]
      exact .dead _
  refine wpR_mono (h none [] _ _ { tmps := vals ++ Array.replicate (fn.ntmps - vals.size) undef, defers := [] } w R rfl) fun e a' w' ⟨s', m', h1, h2, h3⟩ => ?_
  have fini : endG T fn.results.toList av (H1 ++ ancs 0 H0.length) s' → a'.defers = [] ∧ ∃ v, (results fn a'.tmps).run P w' = .ok v w' ∧ ∃ v_1 m'', Ending.returned v = .returned v_1 ∧ Rel C m'' ⟨1, [(0, av)], H1 ++ ancs 0 H0.length⟩ #[v_1] w' := by
    intro he
    unfold endG at he
    split at he
    · rename_i p l hl
      obtain ⟨hp, π, hav, hsc, hle⟩ := he
      obtain ⟨vs, e1, e2, e3⟩ := rvsA_run hT h2 fn.results.toList hl hp
      have hv := mkTup_val (w := w') e2 e3
      have R' := h2.weaken hle
      rw [hav] at hv
      have hlen : (H1 ++ ancs 0 H0.length).length = π.length := (hle.2.2.1.get).1.symm
      have ho := OK.weaken (C := C) (m := m') (w := w') hle.2.2.1
      have hv2 := hv.unren (fun p v h => h.mono ho) hlen hsc
      refine ⟨h3, (if h : vs.toArray.size = 1 then vs.toArray[0] else .tuple vs.toArray), ?_, _, _, rfl, R'.laid, R'.below, R'.base, rfl, R'.inj, R'.blk, R'.fro, fun t => ?_, R'.mp⟩
      · rw [results_eq, Array.mapM_eq_mapM_toList]
        simp only [Sem.run_bind, Sem.run_map]
        rw [e1]
        simp only [Result.andThen_ok]
        rfl
      · cases t with
        | zero => exact hv2
        | succ t => exact .dead _
    · exact he.elim
  cases e with
  | normal => exact fini h1
  | ret => exact fini h1
  | _ => exact h1.elim

/-! ### Who calls it -/

theorem AVal.sig {rd rd' : PV → Value → Prop} {m m2 : Map} {H H2 : Heap} {σ : List Nat} (h1 : ∀ p v, rd p v → rd' p v) (hs : ∀ k, k < σ.length → σ.getD k 0 < H2.length ∧ m2 (σ.getD k 0) = m k) {x : AV} {v : Value} (h : AVal rd m H x v)
    (hx : scA σ.length x = true) : AVal rd' m2 H2 (Go.Pv.ren σ x) v := by
  have one : ∀ {x : AV} {v : Value}, AVal rd m H x v → sc1 σ.length x = true → AVal rd' m2 H2 (ren1 σ x) v := by
    intro x v h hsc
    cases h with
    | dead v => exact .dead v
    | p pv v h => exact .p pv v (h1 _ _ h)
    | sl k lo len v hk h =>
      obtain ⟨g1, g2⟩ := hs k (by simpa [sc1] using hsc)
      refine .sl _ lo len v g1 ?_
      unfold SlOk at *
      rw [g2]; exact h
    | ptr k i v hk h =>
      obtain ⟨g1, g2⟩ := hs k (by simpa [sc1] using hsc)
      refine .ptr _ i v g1 ?_
      unfold PtrOk at *
      rw [g2]; exact h
    | agg l vs hl hr => simp [sc1] at hsc
    | tup l vs hl hr => simp [sc1] at hsc
    | cl f l vs hl hr => simp [sc1] at hsc
    | itv r => exact .itv r
    | mptr k v hk h =>
      obtain ⟨g1, g2⟩ := hs k (by simpa [sc1] using hsc)
      refine .mptr _ v g1 ?_
      unfold MptrOk at *
      rw [g2]; exact h
    | yv k l vs v hk h hl hr => simp [sc1] at hsc
  cases x with
  | agg l =>
    cases h with
    | agg _ vs hl hr =>
      refine .agg _ vs (by simpa using hl) fun c hc => ?_
      rw [List.length_map] at hc
      rw [List.getElem_map]
      exact one (hr c hc) ((List.all_eq_true.1 hx) _ (List.getElem_mem hc))
  | tup l =>
    cases h with
    | tup _ vs hl hr =>
      refine .tup _ vs (by simpa using hl) fun c hc => ?_
      rw [List.length_map] at hc
      rw [List.getElem_map]
      exact one (hr c hc) ((List.all_eq_true.1 hx) _ (List.getElem_mem hc))
  | cl f l =>
    cases h with
    | cl _ _ vs hl hr =>
      refine .cl _ _ vs (by simpa using hl) fun c hc => ?_
      rw [List.length_map] at hc
      rw [List.getElem_map]
      exact one (hr c hc) ((List.all_eq_true.1 hx) _ (List.getElem_mem hc))
  | yv k l vs =>
    simp only [scA, Bool.and_eq_true, decide_eq_true_eq] at hx
    cases h with
    | yv _ _ _ _ hk h hl hr =>
      obtain ⟨g1, g2⟩ := hs k hx.1
      refine .yv _ _ vs v g1 ?_ (by simpa using hl) fun c hc => ?_
      · unfold YvOk at *
        rw [g2]; exact h
      · rw [List.length_map] at hc
        rw [List.getElem_map]
        exact one (hr c hc) ((List.all_eq_true.1 hx.2) _ (List.getElem_mem hc))
  | dead => exact one h hx
  | p pv => exact one h hx
  | sl k lo len => exact one h hx
  | ptr k i => exact one h hx
  | mptr k => exact one h hx
  | itv r => exact one h hx

/-- Blocks put back: those that were lent, in their places; new ones behind. -/
def putM : Heap → List Nat → Heap → Heap
  | H, [], bs => H ++ bs
  | H, _ :: _, [] => H
  | H, k :: ks, b :: bs => putM (hset H k b) ks bs

theorem putM_get : ∀ (ks : List Nat) (bs H : Heap) (k : Nat) (b : Blk), (∀ k ∈ ks, k < H.length) → ks.length ≤ bs.length → (putM H ks bs)[k]? = some b →
    (∃ j : Nat, bs[j]? = some b ∧ (ks ++ List.range' H.length (bs.length - ks.length))[j]? = some k) ∨ (k < H.length ∧ k ∉ ks ∧ H[k]? = some b)
  | [], bs, H, k, b, _, _, h => by
    simp only [putM] at h
    by_cases hk : k < H.length
    · exact .inr ⟨hk, by simp, by rwa [List.getElem?_append_left hk] at h⟩
    · rw [List.getElem?_append_right (by omega)] at h
      · refine .inl ⟨k - H.length, h, ?_⟩
        have := (List.getElem?_eq_some_iff.1 h).1
        simp only [List.nil_append, List.length_nil, Nat.sub_zero]
        rw [List.getElem?_range' this]
        simp; omega
  | k0 :: ks, [], H, k, b, _, hl, _ => by simp at hl
  | k0 :: ks, b0 :: bs, H, k, b, hk, hl, h => by
    simp only [putM] at h
    have h0 := hk k0 (by simp)
    rcases putM_get ks bs (hset H k0 b0) k b (fun k hk' => by rw [hset_length]; exact hk k (by simp [hk'])) (by simpa using hl) h with ⟨j, h1, h2⟩ | ⟨h1, h2, h3⟩
    · rw [hset_length] at h2
      exact .inl ⟨j + 1, by simpa using h1, by simpa using h2⟩
    · rw [hset_get] at h3
      rw [hset_length] at h1
      by_cases e : k = k0
      · subst e
        rw [if_pos ⟨rfl, h0⟩] at h3
        exact .inl ⟨0, by simpa using h3, by simp⟩
      · rw [if_neg (by simp [e])] at h3
        exact .inr ⟨h1, by simp [e, h2], h3⟩

theorem putM_length : ∀ (ks : List Nat) (bs H : Heap), ks.length ≤ bs.length → (putM H ks bs).length = H.length + (bs.length - ks.length)
  | [], bs, H, _ => by simp [putM]
  | k0 :: ks, [], H, hl => by simp at hl
  | k0 :: ks, b0 :: bs, H, hl => by
    simp only [putM]
    rw [putM_length ks bs _ (by simpa using hl), hset_length]; simp

/-- Maps stay maps. -/
def mpKeep : Heap → Heap → Bool
  | .mp _ _ _ :: r, .mp _ _ _ :: t => mpKeep r t
  | .mp _ _ _ :: _, _ => false
  | .lp _ :: r, .lp _ :: t => mpKeep r t
  | .lp _ :: _, _ => false
  | _ :: r, _ :: t => mpKeep r t
  | [], _ => true
  | _ :: _, [] => false

theorem mpKeep_get : ∀ {H0 H1 : Heap}, mpKeep H0 H1 = true → ∀ (j : Nat) (kk : IntKind) (d : Int → Bool) (v : Int → PV), H0[j]? = some (.mp kk d v) → ∃ kk' d' v', H1[j]? = some (.mp kk' d' v')
  | [], _, _, j, _, _, _, h => by simp at h
  | b :: r, [], hm, _, _, _, _, _ => by cases b <;> simp [mpKeep] at hm
  | b :: r, b' :: t, hm, 0, kk, d, v, h => by
    simp at h; subst h
    cases b' <;> simp [mpKeep] at hm
    exact ⟨_, _, _, rfl⟩
  | b :: r, b' :: t, hm, j + 1, kk, d, v, h => by
    have hm2 : mpKeep r t = true := by cases b <;> cases b' <;> simp [mpKeep] at hm <;> exact hm
    simpa using mpKeep_get hm2 j kk d v (by simpa using h)
theorem mpKeep_lp : ∀ {H0 H1 : Heap}, mpKeep H0 H1 = true → ∀ (j : Nat) (r0 : Loop), H0[j]? = some (.lp r0) → ∃ r1, H1[j]? = some (.lp r1)
  | [], _, _, j, _, h => by simp at h
  | b :: r, [], hm, _, _, _ => by cases b <;> simp [mpKeep] at hm
  | b :: r, b' :: t, hm, 0, r0, h => by
    simp at h; subst h
    cases b' <;> simp [mpKeep] at hm
    exact ⟨_, rfl⟩
  | b :: r, b' :: t, hm, j + 1, r0, h => by
    have hm2 : mpKeep r t = true := by cases b <;> cases b' <;> simp [mpKeep] at hm <;> exact hm
    simpa using mpKeep_lp hm2 j r0 (by simpa using h)

def scM (av : AV) (H0 H1 : Heap) : Bool :=
  scA H1.length av && H1.all (fun | .own c => c.all (scA H1.length) | .anc _ _ => false | _ => true) && decide (H0.length ≤ H1.length) && mpKeep H0 H1 && H0.all notAnc

/-- The frame of who is called with blocks that are lent. -/
def subC (C : Ctx) (m : Map) (H : Heap) (ks : List Nat) (H0 : Heap) (w : World) : Ctx :=
  ⟨fun b => OK C m H w b, fun b => w.heap.size ≤ b ∨ ∃ (j : Nat) (b0 : Blk) (l : Loc), H0[j]? = some b0 ∧ b0.wr = true ∧ mren m ks j = some l ∧ l.g = b, w, mren m ks⟩

theorem Rel.wrLt (R : Rel C m s tmps w) {k : Nat} {b : Blk} (hb : s.H[k]? = some b) (hw : b.wr = true) {l : Loc} (hl : m k = some l) : C.B l.g ∧ l.g < w.heap.size := by
  cases b with
  | own c =>
    rcases R.blk k c hb with ⟨_, hn⟩ | ⟨l', cur, e, a1, a2, a3, _⟩
    · rw [hl] at hn; cases hn
    · rw [hl] at a1; cases a1
      exact ⟨a2, (Array.getElem?_eq_some_iff.1 a3).1⟩
  | mp kk d v =>
    obtain ⟨l', ar, clk, vs, a1, a2, a3, _⟩ := R.mp.1 k kk d v hb
    rw [hl] at a1; cases a1
    exact ⟨a2, (Array.getElem?_eq_some_iff.1 a3).1⟩
  | lp r =>
    obtain ⟨l', a1, a2, a3⟩ := R.mp.2.2.2.1 k r hb
    rw [hl] at a1; cases a1
    exact ⟨a2, (Array.getElem?_eq_some_iff.1 a3).1⟩
  | _ => cases hw

theorem Rel.inj2 (R : Rel C m s tmps w) {k k' : Nat} {b b' : Blk} (hb : s.H[k]? = some b) (hw : b.wr = true) (hb' : s.H[k']? = some b') (hw' : b'.wr = true) {l l' : Loc} (hl : m k = some l) (hl' : m k' = some l') (e : l.g = l'.g) : k = k' := by
  cases b with
  | own c =>
    cases b' with
    | own c' => exact R.inj k k' c c' l l' hb hb' hl hl' e
    | mp kk d v => exact absurd e ((R.mpOK hb' hl').2.2 k c l hb hl)
    | lp r => exact absurd e ((R.lpOK hb' hl').2.2 k c l hb hl)
    | _ => cases hw'
  | mp kk d v =>
    cases b' with
    | own c' => exact absurd e.symm ((R.mpOK hb hl).2.2 k' c' l' hb' hl')
    | mp kk' d' v' => exact R.mp.2.1 _ _ _ _ _ _ _ _ _ _ hb hb' hl hl' e
    | lp r =>
      exfalso
      obtain ⟨l1, ar, clk, vs, a1, a2, a3, _⟩ := R.mp.1 k kk d v hb
      obtain ⟨l2, b1, b2, b3⟩ := R.mp.2.2.2.1 k' r hb'
      rw [hl] at a1; cases a1
      rw [hl'] at b1; cases b1
      rw [e, b3] at a3; cases a3
    | _ => cases hw'
  | lp r =>
    cases b' with
    | own c' => exact absurd e.symm ((R.lpOK hb hl).2.2 k' c' l' hb' hl')
    | mp kk d v =>
      exfalso
      obtain ⟨l1, ar, clk, vs, a1, a2, a3, _⟩ := R.mp.1 k' kk d v hb'
      obtain ⟨l2, b1, b2, b3⟩ := R.mp.2.2.2.1 k r hb
      rw [hl'] at a1; cases a1
      rw [hl] at b1; cases b1
      rw [e, a3] at b3; cases b3
    | lp r' => exact R.mp.2.2.2.2 _ _ _ _ _ _ hb hb' hl hl' e
    | _ => cases hw'
  | _ => cases hw

theorem LeH.wr {π : List Nat} {H H1 : Heap} (h3 : LeH π H π H1) {j : Nat} {b0 : Blk} (h : H1[j]? = some b0) (hw : b0.wr = true) : ∃ k' b, π[j]? = some k' ∧ H[k']? = some b ∧ b.wr = true ∧ ((∃ c, b0 = .own c) → ∃ c, b = .own c) ∧ ((∃ kk d v, b0 = .mp kk d v) → ∃ kk d v, b = .mp kk d v) := by
  obtain ⟨g1, g2⟩ := h3.get
  cases b0 with
  | own c =>
    obtain ⟨k', d, a1, a2, _⟩ := LeH.own g2 j c h
    exact ⟨k', _, a1, a2, rfl, (fun _ => ⟨_, rfl⟩), fun ⟨_, _, _, h⟩ => by cases h⟩
  | mp kk d v =>
    obtain ⟨k', a, b⟩ := g2 j _ h
    exact ⟨k', _, a, hget_some b (by simp), rfl, (fun ⟨_, h⟩ => by cases h), fun _ => ⟨_, _, _, rfl⟩⟩
  | lp r =>
    obtain ⟨k', a, b⟩ := g2 j _ h
    exact ⟨k', _, a, hget_some b (by simp), rfl, (fun ⟨_, h⟩ => by cases h), fun ⟨_, _, _, h⟩ => by cases h⟩
  | _ => cases hw

/-- Blocks that are gone. -/
def kills (H : Heap) : List Nat → Heap
  | [] => H
  | k :: ks => kills (hset H k .dead) ks
theorem kills_length : ∀ (ks : List Nat) (H : Heap), (kills H ks).length = H.length
  | [], H => rfl
  | k :: ks, H => by rw [kills, kills_length ks, hset_length]
theorem kills_get : ∀ (ks : List Nat) (H : Heap) {k : Nat} {b : Blk}, (kills H ks)[k]? = some b → (k ∈ ks ∧ b = .dead) ∨ (k ∉ ks ∧ H[k]? = some b)
  | [], H, k, b, h => .inr ⟨by simp, h⟩
  | k0 :: ks, H, k, b, h => by
    rcases kills_get ks _ h with ⟨h1, h2⟩ | ⟨h1, h2⟩
    · exact .inl ⟨by simp [h1], h2⟩
    · rw [hset_get] at h2
      by_cases e : k = k0 ∧ k0 < H.length
      · rw [if_pos e] at h2; exact .inl ⟨by simp [e.1], (Option.some.inj h2).symm⟩
      · rw [if_neg e] at h2
        by_cases e2 : k = k0
        · have := (List.getElem?_eq_some_iff.1 h2).1
          exact absurd ⟨e2, by omega⟩ e
        · exact .inr ⟨by simp [e2, h1], h2⟩

/-- What must be so of what comes back, where the first q blocks stay in their places. -/
def scQ (q : Nat) (av : AV) (H0 H1 : Heap) : Bool :=
  scA H1.length av && H1.all (fun | .own c => c.all (scA H1.length) | .anc _ _ => false | _ => true) && decide (q ≤ H1.length) && decide (q ≤ H0.length) && mpKeep (H0.take q) H1 && (H0.drop q).all (fun b => !b.spc) && H0.all notAnc

theorem Rel.joinQ (R : Rel C m s tmps w) {q : Nat} {ks : List Nat} {H0 H1 : Heap} {r : AV} {w' : World} {v : Value} {m' : Map} (hle : LeH ks s.H ks H0) (hks : ∀ k ∈ ks, k < s.H.length) (R1 : Rel (subC C m s.H ks H0 w) m' ⟨1, [(0, r)], H1 ++ ancs 0 q⟩ #[v] w') (hsc : scQ q r H0 H1 = true) :
    ∃ m2, Rel C m2 { s with H := putM (kills s.H (ks.drop q)) (ks.take q) (H1.map (Blk.ren (ks.take q ++ List.range' s.H.length (H1.length - q)))) } tmps w' ∧
      AVal (Reads (OK C m2 (putM (kills s.H (ks.drop q)) (ks.take q) (H1.map (Blk.ren (ks.take q ++ List.range' s.H.length (H1.length - q))))) w') w') m2 (putM (kills s.H (ks.drop q)) (ks.take q) (H1.map (Blk.ren (ks.take q ++ List.range' s.H.length (H1.length - q))))) (Go.Pv.ren (ks.take q ++ List.range' s.H.length (H1.length - q)) r) v ∧ ∀ k, k < s.H.length → m2 k = m k := by
  obtain ⟨g1, g2⟩ := hle.get
  unfold scQ at hsc
  rw [Bool.and_eq_true, Bool.and_eq_true, Bool.and_eq_true, Bool.and_eq_true, Bool.and_eq_true, Bool.and_eq_true, decide_eq_true_eq, decide_eq_true_eq] at hsc
  obtain ⟨⟨⟨⟨⟨⟨s1, s2⟩, s3⟩, s6⟩, s4⟩, s7⟩, s5⟩ := hsc
  have hn : q ≤ H1.length := s3
  have hqk : q ≤ ks.length := by omega
  have hkt : ∀ k ∈ ks.take q, k ∈ ks := fun k h => List.mem_of_mem_take h
  have htl : (ks.take q).length = q := by rw [List.length_take]; omega
  generalize hσe : ks.take q ++ List.range' s.H.length (H1.length - q) = σ
  have hσlen : σ.length = H1.length := by rw [← hσe, List.length_append, htl, List.length_range']; omega
  generalize hH2 : putM (kills s.H (ks.drop q)) (ks.take q) (H1.map (Blk.ren σ)) = H2
  have hlen2 : H2.length = s.H.length + (H1.length - q) := by rw [← hH2, putM_length _ _ _ (by rw [htl, List.length_map]; exact hn), kills_length, htl]; simp
  -- where the callee's blocks lie
  have hm1 : ∀ j, j < q → m' j = mren m ks j := fun j hj => by
    have h : (H1 ++ ancs 0 q)[H1.length + j]? = some (.anc j j) := by
      rw [List.getElem?_append_right (by omega), Nat.add_sub_cancel_left, ancs_at _ _ _ hj, Nat.zero_add]
    exact (R1.mp.2.2.1 _ _ _ h).2
  obtain ⟨m2, hm2⟩ : ∃ m2 : Map, m2 = fun k => if k < s.H.length then m k else m' (q + (k - s.H.length)) := ⟨_, rfl⟩
  have hmo : ∀ k, k < s.H.length → m2 k = m k := fun k h => by rw [hm2]; simp [h]
  have hσ : ∀ (j k : Nat), σ[j]? = some k → k < H2.length ∧ m2 k = m' j := by
    intro j k h
    rw [← hσe] at h
    by_cases hj : j < q
    · rw [List.getElem?_append_left (by omega)] at h
      rw [List.getElem?_take, if_pos hj] at h
      have hk := hks k (List.mem_of_getElem? h)
      refine ⟨by omega, ?_⟩
      rw [hmo k hk, hm1 j (by omega)]
      simp only [mren, h, Option.bind_some]
    · rw [List.getElem?_append_right (by omega), htl] at h
      have hj2 : j - q < H1.length - q := by
        have := (List.getElem?_eq_some_iff.1 h).1
        simpa using this
      rw [List.getElem?_range' hj2] at h
      simp only [Option.some.injEq, Nat.one_mul] at h
      subst h
      refine ⟨by omega, ?_⟩
      rw [hm2]
      simp only
      rw [if_neg (by omega)]
      congr 1
      omega
  have hσ2 : ∀ k, k < σ.length → σ.getD k 0 < H2.length ∧ m2 (σ.getD k 0) = m' k := fun k hk => by
    have : σ[k]? = some (σ.getD k 0) := by simp [List.getD, List.getElem?_eq_getElem hk]
    exact hσ k _ this
  have hget : ∀ (k : Nat) (b : Blk), H2[k]? = some b → (∃ (j : Nat) (b' : Blk), H1[j]? = some b' ∧ b = b'.ren σ ∧ σ[j]? = some k) ∨ (k < s.H.length ∧ k ∉ ks ∧ s.H[k]? = some b) ∨ b = .dead := by
    intro k b h
    rw [← hH2] at h
    rcases putM_get (ks.take q) _ (kills s.H (ks.drop q)) k b (fun k hk => by rw [kills_length]; exact hks k (hkt k hk)) (by rw [htl, List.length_map]; exact hn) h with ⟨j, h1, h2⟩ | ⟨h1, h2, h3⟩
    · rw [List.length_map, htl, kills_length, hσe] at h2
      rw [List.getElem?_map] at h1
      cases e : H1[j]? with
      | none => rw [e] at h1; cases h1
      | some b' => rw [e] at h1; exact .inl ⟨j, b', e, (Option.some.inj h1).symm, h2⟩
    · rcases kills_get _ _ h3 with ⟨_, e⟩ | ⟨g3, g4⟩
      · exact .inr (.inr e)
      · refine .inr (.inl ⟨by rw [kills_length] at h1; exact h1, fun hk => ?_, g4⟩)
        rw [← List.take_append_drop q ks] at hk
        rcases List.mem_append.1 hk with hk | hk
        · exact h2 hk
        · exact g3 hk
  have hHc : ∀ (j : Nat) (b : Blk), H1[j]? = some b → (H1 ++ ancs 0 q)[j]? = some b := fun j b h => by
    rw [List.getElem?_append_left (List.getElem?_eq_some_iff.1 h).1]; exact h
  have hown : ∀ (k : Nat) (c : List AV), H2[k]? = some (.own c) → (∃ (j : Nat) (c' : List AV), H1[j]? = some (.own c') ∧ c = c'.map (Go.Pv.ren σ) ∧ σ[j]? = some k) ∨ (k < s.H.length ∧ k ∉ ks ∧ s.H[k]? = some (.own c)) := by
    intro k c h
    rcases hget k _ h with ⟨j, b', h1, h2, h3⟩ | h | h
    · cases b' with
      | own c' => simp only [Blk.ren, Blk.own.injEq] at h2; exact .inl ⟨j, c', h1, h2, h3⟩
      | _ => cases h2
    · exact .inr h
    · cases h
  have hmps : ∀ (k : Nat) (kk : IntKind) (d : Int → Bool) (vv : Int → PV), H2[k]? = some (.mp kk d vv) → (∃ j : Nat, H1[j]? = some (.mp kk d vv) ∧ σ[j]? = some k) ∨ (k < s.H.length ∧ k ∉ ks ∧ s.H[k]? = some (.mp kk d vv)) := by
    intro k kk d vv h
    rcases hget k _ h with ⟨j, b', h1, h2, h3⟩ | h | h
    · cases b' with
      | mp kk' d' v' => simp only [Blk.ren, Blk.mp.injEq] at h2; obtain ⟨rfl, rfl, rfl⟩ := h2; exact .inl ⟨j, h1, h3⟩
      | _ => cases h2
    · exact .inr h
    · cases h
  have hfro : ∀ (k : Nat) (c : List PV), H2[k]? = some (.fro c) → (∃ j : Nat, H1[j]? = some (.fro c) ∧ σ[j]? = some k) ∨ (k < s.H.length ∧ k ∉ ks ∧ s.H[k]? = some (.fro c)) := by
    intro k c h
    rcases hget k _ h with ⟨j, b', h1, h2, h3⟩ | h | h
    · cases b' with
      | fro c' => simp only [Blk.ren, Blk.fro.injEq] at h2; subst h2; exact .inl ⟨j, h1, h3⟩
      | _ => cases h2
    · exact .inr h
    · cases h
  have lent : ∀ (j : Nat) (b0 : Blk) (l : Loc), H0[j]? = some b0 → b0.wr = true → mren m ks j = some l → ∃ k' b, k' ∈ ks ∧ s.H[k']? = some b ∧ b.wr = true ∧ m k' = some l ∧ ((∃ c, b0 = .own c) → ∃ c, b = .own c) ∧ ((∃ kk d v, b0 = .mp kk d v) → ∃ kk d v, b = .mp kk d v) := by
    intro j b0 l h hw hl
    obtain ⟨k', b, a1, a2, a3, a4, a5⟩ := hle.wr h hw
    simp only [mren, a1, Option.bind_some] at hl
    exact ⟨k', b, List.mem_of_getElem? a1, a2, a3, hl, a4, a5⟩
  have hB1 : ∀ b, (subC C m s.H ks H0 w).B b → C.B b := by
    intro b hb
    rcases hb with hb | ⟨j, b0, l, h1, h2, h3, rfl⟩
    · exact R.base b hb
    · obtain ⟨k', b, _, a2, a3, a4, _⟩ := lent j b0 l h1 h2 h3
      exact (R.wrLt a2 a3 a4).1
  have hBx : ∀ (k : Nat) (b : Blk) (l : Loc), k ∉ ks → s.H[k]? = some b → b.wr = true → m k = some l → ¬ (subC C m s.H ks H0 w).B l.g := by
    intro k b l hk hb hw hl hB
    rcases hB with hB | ⟨j, b0, l0, h1, h2, h3, h4⟩
    · have := (R.wrLt hb hw hl).2
      omega
    · obtain ⟨k', b', a1, a2, a3, a4, _⟩ := lent j b0 l0 h1 h2 h3
      have := R.inj2 hb hw a2 a3 hl a4 h4.symm
      subst this
      exact hk a1
  have hcell : ∀ b o x, OK C m s.H w b → w.cell? ⟨b, o, none⟩ = some x → w'.cell? ⟨b, o, none⟩ = some x := by
    intro b o x hb hc
    by_cases hB : (subC C m s.H ks H0 w).B b
    · exfalso
      rcases hB with hB | ⟨j, b0, l0, h1, h2, h3, h4⟩
      · have := hb.2.1; omega
      · obtain ⟨k', b', a1, a2, a3, a4, _⟩ := lent j b0 l0 h1 h2 h3
        cases b' with
        | own c => exact hb.2.2 k' c l0 a2 a4 h4
        | mp kk d vv =>
          obtain ⟨l', ar, clk, vs, c1, c2, c3, _⟩ := R.mp.1 k' kk d vv a2
          rw [a4] at c1; cases c1
          rw [h4] at c3
          unfold World.cell? at hc
          simp only [c3] at hc
          first | cases hc | simp at hc
        | lp rr =>
          obtain ⟨l', c1, c2, c3⟩ := R.mp.2.2.2.1 k' rr a2
          rw [a4] at c1; cases c1
          rw [h4] at c3
          unfold World.cell? at hc
          simp only [c3] at hc
          first | cases hc | simp at hc
        | _ => cases a3
    · rw [World.cell?_of_block (w := w) (R1.below.block b hB)]; exact hc
  have hOK : ∀ b, OK (subC C m s.H ks H0 w) m' (H1 ++ ancs 0 q) w' b → OK C m2 H2 w' b := by
    intro b hb
    refine ⟨?_, hb.2.1, fun k c l h hl => ?_⟩
    · rcases hb.1 with h | h
      · exact h.1
      · exact .inr (hB1 b h)
    · rcases hown k c h with ⟨j, c', h1, _, h3⟩ | ⟨h1, h2, h3⟩
      · rw [(hσ j k h3).2] at hl
        exact hb.2.2 j c' l (hHc _ _ h1) hl
      · rw [hmo k h1] at hl
        rcases hb.1 with h' | h'
        · exact h'.2.2 k c l h3 hl
        · intro e
          exact hBx k _ l h2 h3 rfl hl (by rw [e]; exact h')
  have hsp : ∀ (j : Nat) (b : Blk), H0[j]? = some b → b.spc = true → j < q := fun j b h hb => by
    refine Nat.lt_of_not_le fun hq => ?_
    have h2 : (H0.drop q)[j - q]? = some b := by rw [List.getElem?_drop, show q + (j - q) = j by omega]; exact h
    have := (List.all_eq_true.1 s7) _ (List.mem_of_getElem? h2)
    rw [hb] at this; cases this
  have ho1 : ∀ b, OK C m s.H w b → OK C m2 H2 w' b := by
    intro b hb
    refine ⟨hb.1, Nat.lt_of_lt_of_le hb.2.1 R1.below.size, fun k c l h hl e => ?_⟩
    rcases hown k c h with ⟨j, c', h1, _, h3⟩ | ⟨h1, h2, h3⟩
    · rw [(hσ j k h3).2] at hl
      rcases (R1.wrLt (hHc _ _ h1) rfl hl).1 with hB | ⟨j0, b0, l0, a1, a2, a3, a4⟩
      · have := hb.2.1; omega
      · obtain ⟨k', b', d1, d2, d3, d4, d5, d6⟩ := lent j0 b0 l0 a1 a2 a3
        cases b0 with
        | own c0 =>
          obtain ⟨c1, rfl⟩ := d5 ⟨_, rfl⟩
          exact hb.2.2 k' c1 l0 d2 d4 (by rw [a4, e])
        | mp kk d vv =>
          have hj0 := hsp j0 _ a1 rfl
          obtain ⟨kk', d', v', f1⟩ := mpKeep_get s4 j0 kk d vv (by rw [List.getElem?_take, if_pos hj0]; exact a1)
          have f2 : m' j0 = some l0 := by rw [hm1 j0 hj0]; exact a3
          exact (R1.mpOK (hHc _ _ f1) f2).2.2 j c' l (hHc _ _ h1) hl a4.symm
        | lp rr =>
          have hj0 := hsp j0 _ a1 rfl
          obtain ⟨r1, f1⟩ := mpKeep_lp s4 j0 rr (by rw [List.getElem?_take, if_pos hj0]; exact a1)
          have f2 : m' j0 = some l0 := by rw [hm1 j0 hj0]; exact a3
          exact (R1.lpOK (hHc _ _ f1) f2).2.2 j c' l (hHc _ _ h1) hl a4.symm
        | _ => cases a2
    · rw [hmo k h1] at hl
      exact hb.2.2 k c l h3 hl e
  have rd1 : ∀ p x, Reads (OK C m s.H w) w p x → Reads (OK C m2 H2 w') w' p x := fun p x h => h.extc ho1 hcell
  have rd2 : ∀ p x, Reads (OK (subC C m s.H ks H0 w) m' (H1 ++ ancs 0 q) w') w' p x → Reads (OK C m2 H2 w') w' p x := fun p x h => h.mono hOK
  have hlen3 : s.H.length ≤ H2.length := by omega
  have sall : ∀ (j : Nat) (b : Blk), H1[j]? = some b → (match b with | .own c => c.all (scA H1.length) | .anc _ _ => false | _ => true) = true := fun j b h => by
    have := (List.all_eq_true.1 s2) _ (List.mem_of_getElem? h)
    cases b <;> exact this
  refine ⟨m2, ⟨R.laid.ext rd1, R.below.trans ⟨R1.below.os, R1.below.tape, R1.below.output, R1.below.size, fun k hk => R1.below.block k fun h => hk (hB1 k h), R1.below.dr⟩, fun b h => R.base b (Nat.le_trans R1.below.size h), R.size, ?_, ?_, ?_, fun t => ?_, ?_, ?_, ?_, ?_⟩, ?_, hmo⟩
  · intro k k' c c' l l' h1 h2 h3 h4 h5
    rcases hown k c h1 with ⟨j, d, a1, _, a3⟩ | ⟨a1, a2, a3⟩ <;> rcases hown k' c' h2 with ⟨j', d', b1, _, b3⟩ | ⟨b1, b2, b3⟩
    · rw [(hσ _ _ a3).2] at h3; rw [(hσ _ _ b3).2] at h4
      have := R1.inj j j' d d' l l' (hHc _ _ a1) (hHc _ _ b1) h3 h4 h5
      subst this
      rw [a3] at b3
      exact Option.some.inj b3
    · rw [(hσ _ _ a3).2] at h3; rw [hmo _ b1] at h4
      exact absurd (by rw [← h5]; exact (R1.wrLt (hHc _ _ a1) rfl h3).1) (hBx k' _ l' b2 b3 rfl h4)
    · rw [hmo _ a1] at h3; rw [(hσ _ _ b3).2] at h4
      exact absurd (by rw [h5]; exact (R1.wrLt (hHc _ _ b1) rfl h4).1) (hBx k _ l a2 a3 rfl h3)
    · rw [hmo _ a1] at h3; rw [hmo _ b1] at h4
      exact R.inj k k' c c' l l' a3 b3 h3 h4 h5
  · intro k c h
    rcases hown k c h with ⟨j, c', a1, rfl, a3⟩ | ⟨a1, a2, a3⟩
    · rcases R1.blk j c' (hHc _ _ a1) with ⟨e, hn⟩ | ⟨l, cur, e, b1, b2, b3, b4, b5, b6, b7⟩
      · exact .inl ⟨by rw [e]; rfl, by rw [(hσ _ _ a3).2]; exact hn⟩
      · refine .inr ⟨l, cur, e, by rw [(hσ _ _ a3).2]; exact b1, hB1 _ b2, b3, b4, b5, by simpa using b6, fun i hi => ?_⟩
        rw [List.length_map] at hi
        rw [List.getElem_map]
        have hs : scA σ.length c'[i] = true := by
          rw [hσlen]
          exact (List.all_eq_true.1 (sall j _ a1)) _ (List.getElem_mem hi)
        exact (b7 i hi).sig rd2 hσ2 hs
    · refine (R.blk k c a3).ext rd1 hlen3 hmo (hmo k a1) fun l hl => R1.below.block _ (hBx k _ l a2 a3 rfl hl)
  · intro k c h
    rcases hfro k c h with ⟨j, a1, a3⟩ | ⟨a1, a2, a3⟩
    · rcases R1.fro j c (hHc _ _ a1) with ⟨e1, e2⟩ | ⟨l, vs, e1, e2, e3, e4⟩
      · exact .inl ⟨e1, by rw [(hσ _ _ a3).2]; exact e2⟩
      · exact .inr ⟨l, vs, by rw [(hσ _ _ a3).2]; exact e1, hOK _ e2, e3, fun i hi => ⟨(e4 i hi).1, rd2 _ _ (e4 i hi).2⟩⟩
    · rcases R.fro k c a3 with ⟨e1, e2⟩ | ⟨l, vs, e1, e2, e3, e4⟩
      · exact .inl ⟨e1, by rw [hmo k a1]; exact e2⟩
      · exact .inr ⟨l, vs, by rw [hmo k a1]; exact e1, ho1 _ e2, e3, fun i hi => ⟨hcell _ _ _ e2 (e4 i hi).1, rd1 _ _ (e4 i hi).2⟩⟩
  · exact (R.slot t).ext rd1 hlen3 hmo
  · intro k kk d vv h
    rcases hmps k kk d vv h with ⟨j, a1, a3⟩ | ⟨a1, a2, a3⟩
    · obtain ⟨l, ar, clk, vs, b1, b2, b3, b4, b5, b6, b7⟩ := R1.mp.1 j kk d vv (hHc _ _ a1)
      exact ⟨l, ar, clk, vs, by rw [(hσ _ _ a3).2]; exact b1, hB1 _ b2, b3, b4, b5, b6, fun z hz => rd2 _ _ (b7 z hz)⟩
    · obtain ⟨l, ar, clk, vs, b1, b2, b3, b4, b5, b6, b7⟩ := R.mp.1 k kk d vv a3
      exact ⟨l, ar, clk, vs, by rw [hmo k a1]; exact b1, b2, by rw [R1.below.block _ (hBx k _ l a2 a3 rfl b1)]; exact b3, b4, b5, b6, fun z hz => rd1 _ _ (b7 z hz)⟩
  · intro k k' kk d vv kk' d' v' l l' h1 h2 h3 h4 h5
    rcases hmps k kk d vv h1 with ⟨j, a1, a3⟩ | ⟨a1, a2, a3⟩ <;> rcases hmps k' kk' d' v' h2 with ⟨j', b1, b3⟩ | ⟨b1, b2, b3⟩
    · rw [(hσ _ _ a3).2] at h3; rw [(hσ _ _ b3).2] at h4
      have := R1.mp.2.1 _ _ _ _ _ _ _ _ _ _ (hHc _ _ a1) (hHc _ _ b1) h3 h4 h5
      subst this
      rw [a3] at b3
      exact Option.some.inj b3
    · rw [(hσ _ _ a3).2] at h3; rw [hmo _ b1] at h4
      exact absurd (by rw [← h5]; exact (R1.wrLt (hHc _ _ a1) rfl h3).1) (hBx k' _ l' b2 b3 rfl h4)
    · rw [hmo _ a1] at h3; rw [(hσ _ _ b3).2] at h4
      exact absurd (by rw [h5]; exact (R1.wrLt (hHc _ _ b1) rfl h4).1) (hBx k _ l a2 a3 rfl h3)
    · rw [hmo _ a1] at h3; rw [hmo _ b1] at h4
      exact R.mp.2.1 _ _ _ _ _ _ _ _ _ _ a3 b3 h3 h4 h5
  · intro k i j h
    rcases hget k _ h with ⟨j', b', h1, h2, _⟩ | ⟨a1, a2, a3⟩ | h
    · have := sall j' b' h1
      cases b' with
      | anc _ _ => cases this
      | _ => cases h2
    · obtain ⟨c1, c2⟩ := R.mp.2.2.1 k i j a3
      exact ⟨by simp only; omega, by rw [hmo j c1]; exact c2⟩
    · cases h
  · have hlps : ∀ (k : Nat) (r : Loop), H2[k]? = some (.lp r) → (∃ j : Nat, H1[j]? = some (.lp r) ∧ σ[j]? = some k) ∨ (k < s.H.length ∧ k ∉ ks ∧ s.H[k]? = some (.lp r)) := by
      intro k r h
      rcases hget k _ h with ⟨j, b', h1, h2, h3⟩ | h | h
      · cases b' with
        | lp r' => simp only [Blk.ren, Blk.lp.injEq] at h2; obtain rfl := h2; exact .inl ⟨j, h1, h3⟩
        | _ => cases h2
      · exact .inr h
      · cases h
    constructor
    · intro k r h
      rcases hlps k r h with ⟨j, a1, a3⟩ | ⟨a1, a2, a3⟩
      · obtain ⟨l, b1, b2, b3⟩ := R1.mp.2.2.2.1 j r (hHc _ _ a1)
        exact ⟨l, by rw [(hσ _ _ a3).2]; exact b1, hB1 _ b2, b3⟩
      · obtain ⟨l, b1, b2, b3⟩ := R.mp.2.2.2.1 k r a3
        exact ⟨l, by rw [hmo k a1]; exact b1, b2, by rw [R1.below.block _ (hBx k _ l a2 a3 rfl b1)]; exact b3⟩
    · intro k k' r r' l l' h1 h2 h3 h4 h5
      rcases hlps k r h1 with ⟨j, a1, a3⟩ | ⟨a1, a2, a3⟩ <;> rcases hlps k' r' h2 with ⟨j', b1, b3⟩ | ⟨b1, b2, b3⟩
      · rw [(hσ _ _ a3).2] at h3; rw [(hσ _ _ b3).2] at h4
        have := R1.mp.2.2.2.2 _ _ _ _ _ _ (hHc _ _ a1) (hHc _ _ b1) h3 h4 h5
        subst this
        rw [a3] at b3
        exact Option.some.inj b3
      · rw [(hσ _ _ a3).2] at h3; rw [hmo _ b1] at h4
        exact absurd (by rw [← h5]; exact (R1.wrLt (hHc _ _ a1) rfl h3).1) (hBx k' _ l' b2 b3 rfl h4)
      · rw [hmo _ a1] at h3; rw [(hσ _ _ b3).2] at h4
        exact absurd (by rw [h5]; exact (R1.wrLt (hHc _ _ b1) rfl h4).1) (hBx k _ l a2 a3 rfl h3)
      · rw [hmo _ a1] at h3; rw [hmo _ b1] at h4
        exact R.mp.2.2.2.2 _ _ _ _ _ _ a3 b3 h3 h4 h5
  · have := R1.slot 0
    exact AVal.sig rd2 hσ2 this (by rw [hσlen]; exact s1)

theorem kills_nil (H : Heap) : kills H [] = H := rfl
theorem Rel.joinM (R : Rel C m s tmps w) {ks : List Nat} {H0 H1 : Heap} {r : AV} {w' : World} {v : Value} {m' : Map} (hle : LeH ks s.H ks H0) (hks : ∀ k ∈ ks, k < s.H.length) (R1 : Rel (subC C m s.H ks H0 w) m' ⟨1, [(0, r)], H1 ++ ancs 0 H0.length⟩ #[v] w') (hsc : scM r H0 H1 = true) :
    ∃ m2, Rel C m2 { s with H := putM s.H ks (H1.map (Blk.ren (ks ++ List.range' s.H.length (H1.length - ks.length)))) } tmps w' ∧
      AVal (Reads (OK C m2 (putM s.H ks (H1.map (Blk.ren (ks ++ List.range' s.H.length (H1.length - ks.length))))) w') w') m2 (putM s.H ks (H1.map (Blk.ren (ks ++ List.range' s.H.length (H1.length - ks.length))))) (Go.Pv.ren (ks ++ List.range' s.H.length (H1.length - ks.length)) r) v := by
  have g1 := (hle.get).1
  have h := R.joinQ (q := H0.length) hle hks R1 (by
    unfold scM at hsc
    unfold scQ
    rw [Bool.and_eq_true, Bool.and_eq_true, Bool.and_eq_true, Bool.and_eq_true] at hsc
    obtain ⟨⟨⟨⟨s1, s2⟩, s3⟩, s4⟩, s5⟩ := hsc
    rw [s1, s2, s3, s5, List.take_length, s4, List.drop_length]; simp)
  rw [← g1, List.take_length, List.drop_length, kills_nil] at h
  obtain ⟨m2, h1, h2, _⟩ := h
  exact ⟨m2, h1, h2⟩

/-! ### The call -/

def argM1 (H : Heap) (ks : List Nat) (x a : AV) : Prop :=
  match a with
  | .p pv => (match peekG H x with | some (p, pv', true) => p ∧ pv' = pv | _ => False)
  | a => x = Go.Pv.ren ks a ∧ scA ks.length a = true

def argsM (H : Heap) (ks : List Nat) : List AV → List AV → Prop
  | x :: xs, a :: avs => argM1 H ks x a ∧ argsM H ks xs avs
  | [], [] => True
  | _, _ => False

theorem argsM_val (R : Rel C m s tmps w) {rd' : PV → Value → Prop} {ks : List Nat} {H0 : Heap} (h1 : ∀ p v, Reads (OK C m s.H w) w p v → rd' p v) (hl : H0.length = ks.length) : ∀ (X avs : List AV) (f : Nat → Value), argsM s.H ks X avs → (∀ i (h : i < X.length), AVal (Reads (OK C m s.H w) w) m s.H X[i] (f i)) →
    avs.length = X.length ∧ ∀ i (h : i < avs.length), AVal rd' (mren m ks) H0 avs[i] (f i)
  | [], [], f, _, _ => ⟨rfl, fun i h => by simp at h⟩
  | x :: xs, a :: avs, f, h, hv => by
    obtain ⟨k1, k2⟩ := argsM_val R h1 hl xs avs (fun i => f (i + 1)) h.2 fun i hi => by have := hv (i + 1) (by simp; omega); rwa [List.getElem_cons_succ] at this
    refine ⟨by simp [k1], fun i hi => ?_⟩
    cases i with
    | succ i => simpa using k2 i (by simpa using hi)
    | zero =>
      have hx := hv 0 (by simp)
      simp only [List.getElem_cons_zero] at hx ⊢
      have h0 := h.1
      unfold argM1 at h0
      split at h0
      · rename_i pv
        split at h0
        · rename_i p pv' hp
          obtain ⟨g1, rfl⟩ := h0
          exact .p _ _ (h1 _ _ ((peekG_val R hx hp g1).2 rfl))
        · exact h0.elim
      · obtain ⟨rfl, hsc⟩ := h0
        exact hx.unren h1 hl hsc
  | [], _ :: _, _, h, _ => h.elim
  | _ :: _, [], _, h, _ => h.elim

theorem call_doesM {o : Oper} {fo : Operand} {args : Array Operand} {ts : Array TypeId} (ho : o.op = .call { callee := .value fo, args := args, argTypes := ts }) {g : FuncId} {cap : List PV} (hfo : s.ev fo = .p (.fn g cap)) {ks : List Nat} {avs : List AV} {H0 H1 : Heap} {r : AV}
    (hc : FnM P g avs H0 r H1) (hargs : argsM s.H ks (args.toList.map s.ev ++ cap.map .p) avs) (hle : LeH ks s.H ks H0) (hnd : ks.Nodup) (hks : ks.all (fun k => decide (k < s.H.length)) = true) (hsc : scM r H0 H1 = true) :
    DoesW P o s (Go.Pv.ren (ks ++ List.range' s.H.length (H1.length - ks.length)) r) (putM s.H ks (H1.map (Blk.ren (ks ++ List.range' s.H.length (H1.length - ks.length))))) := by
  intro C m a w K Q R hK
  have hks' : ∀ k ∈ ks, k < s.H.length := fun k hk => by simpa using (List.all_eq_true.1 hks) k hk
  have hfv := R.ev fo
  rw [hfo] at hfv
  generalize hfe : a.eval fo = fv at hfv
  have hfv := hfv.p_inv
  cases hfv with
  | fn _ _ vs hcl hcr =>
    obtain ⟨⟨fn, hfn, hnm, hbd⟩, hcalls⟩ := hc
    have hrun : (execOp a.eval o).run P w = .ok (.enter g (args.map a.eval ++ vs)) w := by
      have hnm' : ¬ fn.name = "runtime.NumGoroutine" := by simpa using hnm
      have hbd' : ¬ fn.body = none := by intro e; rw [e] at hbd; simp at hbd
      simp [execOp, ho, resolve, hfe, Deferred.ofValue, invoke, callFunc, hfn, hnm', hbd']
    refine opR_of_wp (by first | rfl | (rw [ho]; rfl)) ?_
    unfold Oper.wp
    rw [hrun]
    simp only [Oper.upon]
    obtain ⟨g1, g2⟩ := hle.get
    have ho1 : ∀ b, OK C m s.H w b → OK (subC C m s.H ks H0 w) (mren m ks) H0 w b := by
      refine fun b h => ⟨.inl h, h.2.1, fun k c l hk hl => ?_⟩
      obtain ⟨k', d, a1, a2, _⟩ := LeH.own g2 k c hk
      simp only [mren, a1, Option.bind_some] at hl
      exact h.2.2 k' _ l a2 hl
    obtain ⟨e1, e2⟩ := argsM_val R (rd' := Reads (OK (subC C m s.H ks H0 w) (mren m ks) H0 w) w) (H0 := H0) (fun p v h => h.mono ho1) g1.symm _ avs (fun i => (args.map a.eval ++ vs).getD i undef) hargs fun i hi => by
      simp only [List.length_append, List.length_map, Array.length_toList] at hi
      by_cases hip : i < args.size
      · rw [List.getElem_append_left (by simpa using hip)]
        simp only [Array.getD_eq_getD_getElem?]
        rw [Array.getElem?_append_left (by simpa using hip)]
        have := R.ev args[i]
        simpa [Array.getElem?_eq_getElem hip] using this
      · rw [List.getElem_append_right (by simp; omega)]
        simp only [Array.getD_eq_getD_getElem?]
        rw [Array.getElem?_append_right (by simp; omega)]
        simp only [List.getElem_map, List.length_map, Array.length_toList, Array.size_map]
        have := hcr (i - args.size) (by omega)
        rw [Array.getD_eq_getD_getElem?] at this
        exact .p _ _ this
    have hsz : (args.map a.eval ++ vs).size = avs.length := by
      rw [e1]; simp; omega
    have s5 : H0.all notAnc = true := by
      unfold scM at hsc
      rw [Bool.and_eq_true] at hsc
      exact hsc.2
    have R0 : Rel (subC C m s.H ks H0 w) (mren m ks) ⟨avs.length, entA 0 avs, H0⟩ (args.map a.eval ++ vs) w := by
      refine R.weakenC (s1 := ⟨avs.length, entA 0 avs, H0⟩) hsz hnd hle ho1 (BelowP.refl _ _) (fun b h => .inl h) (fun k b l h hw hl _ => .inr ⟨k, b, l, h, hw, hl, rfl⟩) (fun k i j h => ?_) fun t => ?_
      · exact absurd rfl (notAnc_spec ((List.all_eq_true.1 s5) _ (List.mem_of_getElem? h)) i j)
      · unfold St.get
        simp only
        rw [entA_lk, if_pos (Nat.zero_le _), Nat.sub_zero]
        by_cases ht : t < avs.length
        · have := e2 t ht
          simpa [List.getD, List.getElem?_eq_getElem ht] using this
        · rw [List.getD_eq_getElem?_getD, List.getElem?_eq_none (by omega)]
          exact .dead _
    have R0' := R0.addAnc (n := H0.length) (Nat.le_refl _) fun i _ => rfl
    refine (hcalls _ _ w _ R0').mono fun e w' ⟨v, m', he, R1⟩ => ?_
    subst he
    obtain ⟨m2, R2, hv⟩ := R.joinM hle hks' R1 hsc
    exact hK v m2 w' R2 hv

/-- THE WORD OF THE WALK: a call that is lent blocks. -/
theorem runs_callM {all : Array Oper} {rest : List Oper} {K : St → Prop} {dst : Option Tmp} {ty : TypeId} {pos : String} {aft : Array Edge} {gd : Option (Nat × Bool)} {fo : Operand} {args : Array Operand} {ts : Array TypeId} {g : FuncId} {avs : List AV} {H0 H1 : Heap} {r : AV} (ks : List Nat)
    (hc : FnM P g avs H0 r H1) {cap : List PV} (hfo : s.ev fo = .p (.fn g cap)) (hg : guardA all s { dst := dst, op := .call { callee := .value fo, args := args, argTypes := ts }, type := ty, pos := pos, after := aft, guard := gd } = some true)
    (hargs : argsM s.H ks (args.toList.map s.ev ++ cap.map .p) avs) (hle : LeH ks s.H ks H0) (hnd : ks.Nodup) (hks : ks.all (fun k => decide (k < s.H.length)) = true) (hsc : scM r H0 H1 = true) (hd : dstOk s dst)
    (h : Runs P false all rest K (({ s with H := putM s.H ks (H1.map (Blk.ren (ks ++ List.range' s.H.length (H1.length - ks.length)))) } : St).put dst (Go.Pv.ren (ks ++ List.range' s.H.length (H1.length - ks.length)) r))) :
    Runs P false all ({ dst := dst, op := .call { callee := .value fo, args := args, argTypes := ts }, type := ty, pos := pos, after := aft, guard := gd } :: rest) K s := by
  obtain ⟨s', hr, hK⟩ := h
  exact ⟨s', .cons (.op s _ _ hg (dstOk_spec hd) (call_doesM rfl hfo hc hargs hle hnd hks hsc) fun h => by cases h) hr, hK⟩

/-! ### How much stands in a map -/

open Classical in
noncomputable def mpLen (d : Int → Bool) : Nat := if h : ∃ l : List Int, l.Nodup ∧ ∀ z, z ∈ l ↔ d z = true then h.choose.length else 0

theorem nodup_le : ∀ {l l' : List Int}, l.Nodup → (∀ z ∈ l, z ∈ l') → l.length ≤ l'.length
  | [], _, _, _ => Nat.zero_le _
  | x :: l, l', hn, h => by
    have hx := h x (by simp)
    have h1 := nodup_le (l := l) (l' := l'.erase x) (List.nodup_cons.1 hn).2 fun z hz => (List.mem_erase_of_ne (fun e => (List.nodup_cons.1 hn).1 (by rw [← e]; exact hz))).2 (h z (by simp [hz]))
    rw [List.length_erase_of_mem hx] at h1
    have := List.length_pos_of_mem hx
    simp only [List.length_cons]
    omega

theorem mpLen_eq {d : Int → Bool} {l : List Int} (h1 : l.Nodup) (h2 : ∀ z, z ∈ l ↔ d z = true) : mpLen d = l.length := by
  have h : ∃ l : List Int, l.Nodup ∧ ∀ z, z ∈ l ↔ d z = true := ⟨l, h1, h2⟩
  unfold mpLen
  rw [dif_pos h]
  obtain ⟨a1, a2⟩ := h.choose_spec
  refine Nat.le_antisymm (nodup_le a1 fun z hz => (h2 z).2 ((a2 z).1 hz)) (nodup_le h1 fun z hz => (a2 z).2 ((h2 z).1 hz))

theorem mlk_some {kk : IntKind} {z : Int} : ∀ {es : List MapEntry} {x : Value}, mlk kk z es = some x → ∃ e ∈ es, e.key = .int kk z
  | [], _, h => by cases h
  | e :: es, x, h => by
    by_cases hk : e.key = .int kk z
    · exact ⟨e, by simp, hk⟩
    · rw [mlk_neg _ hk] at h
      obtain ⟨e', h1, h2⟩ := mlk_some h
      exact ⟨e', by simp [h1], h2⟩

theorem mlk_ne {kk : IntKind} {z : Int} : ∀ {es : List MapEntry}, (∃ e ∈ es, e.key = .int kk z) → mlk kk z es ≠ none
  | [], h => by obtain ⟨e, h1, _⟩ := h; cases h1
  | e :: es, h => by
    by_cases hk : e.key = .int kk z
    · rw [mlk_pos _ hk]; simp
    · rw [mlk_neg _ hk]
      obtain ⟨e', h1, h2⟩ := h
      rcases List.mem_cons.1 h1 with rfl | h1
      · exact absurd h2 hk
      · exact mlk_ne ⟨e', h1, h2⟩

def keyInt : Value → Int
  | .int _ z => z
  | _ => 0

theorem mpLen_entries {kk : IntKind} {d : Int → Bool} {es : List MapEntry} {vs : Int → Value} {clk : Nat} (h1 : MpK kk clk es) (h2 : ∀ z, d z = false → mlk kk z es = none) (h3 : ∀ z, d z = true → mlk kk z es = some (vs z)) : mpLen d = es.length := by
  have hk : ∀ e ∈ es, e.key = .int kk (keyInt e.key) := fun e he => by
    obtain ⟨z, hz⟩ := h1.1 e he
    rw [hz]; rfl
  have e1 : es.map MapEntry.key = (es.map fun e => keyInt e.key).map (Value.int kk) := by
    rw [List.map_map]
    exact List.map_congr_left fun e he => hk e he
  have hnd : (es.map fun e => keyInt e.key).Nodup := by
    have := h1.2.1
    rw [e1] at this
    exact List.Pairwise.imp (fun h e => h (by rw [e])) (List.pairwise_map.1 this)
  rw [mpLen_eq hnd fun z => ?_, List.length_map]
  rw [List.mem_map]
  constructor
  · rintro ⟨e, he, rfl⟩
    cases hd : d (keyInt e.key) with
    | true => rfl
    | false => exact absurd (h2 _ hd) (mlk_ne ⟨e, he, hk e he⟩)
  · intro hd
    obtain ⟨e, he, hz⟩ := mlk_some (h3 z hd)
    exact ⟨e, he, by rw [hz]; rfl⟩

theorem mpLen_does (hT : ∀ t ti, T t = some ti → tiOf P t = some ti) {o : Oper} {t : TypeId} {x : Operand} (ho : o.op = .call { callee := .builtin .len, args := #[x], argTypes := #[t] }) {ti : TI} (ht : T t = some ti) {kt et : TypeId} {zo : Option Value} (hkind : ti.kind = .map kt et zo)
    {k : Nat} {kk : IntKind} {d : Int → Bool} {v : Int → PV} (hx : s.ev x = .mptr k) (hg : hget s.H k = .mp kk d v) : DoesW P o s (.p (.int .i64 (mpLen d : Int))) s.H := by
  intro C m a w K Q R hK
  obtain ⟨dst, op, type, pos, after, guard⟩ := o
  simp only at ho
  subst ho
  have hxe := R.ev x
  rw [hx] at hxe
  generalize hxv : a.eval x = xv at hxe
  cases hxe with
  | mptr _ _ hkl hp =>
    obtain ⟨l, hml, rfl⟩ := hp
    obtain ⟨l', ar, clk, vs, a1, a2, a3, a4, a5, a6, a7⟩ := R.mp.1 k kk d v (hget_some hg (by simp))
    rw [hml] at a1; cases a1
    have hu := (ti_map (hT _ _ ht) hkind).1
    have hlen : (mpLen d : Int) = (ar.size : Int) := by rw [mpLen_entries a4 a5 a6]; simp
    have hrun : (execOp a.eval { dst := dst, op := .call { callee := .builtin .len, args := #[x], argTypes := #[t] }, type := type, pos := pos, after := after, guard := guard }).run P w = .ok (.value (.int .i64 (ar.size : Int))) w := by
      simp [BigFrame.execOp_builtin, BigFrame.builtin_len, Builtin.len_, hxv, run_underlying hu, goInt, MapKept.run_getObj_map a3]
    refine opR_of_wp (by first | rfl | (rw [ho]; rfl)) ?_
    unfold Oper.wp
    rw [hrun]
    refine hK _ m w R (.p _ _ ?_)
    rw [hlen]
    exact .int _ _

theorem runs_mapLen (hT : ∀ t ti, T t = some ti → tiOf P t = some ti) {all : Array Oper} {rest : List Oper} {K : St → Prop} {dst : Option Tmp} {ty : TypeId} {pos : String} {aft : Array Edge} {gd : Option (Nat × Bool)} {x : Operand} {t : TypeId} {ti : TI} (ht : T t = some ti) {kt et : TypeId} {zo : Option Value} (hkind : ti.kind = .map kt et zo)
    {k : Nat} {kk : IntKind} {d : Int → Bool} {v : Int → PV} (hx : s.ev x = .mptr k) (hgt : hget s.H k = .mp kk d v) (hg : guardA all s { dst := dst, op := .call { callee := .builtin .len, args := #[x], argTypes := #[t] }, type := ty, pos := pos, after := aft, guard := gd } = some true) (hd : dstOk s dst)
    (h : Runs P false all rest K (s.put dst (.p (.int .i64 (mpLen d : Int))))) : Runs P false all ({ dst := dst, op := .call { callee := .builtin .len, args := #[x], argTypes := #[t] }, type := ty, pos := pos, after := aft, guard := gd } :: rest) K s := by
  obtain ⟨s', hr, hK⟩ := h
  exact ⟨s', .cons (.op s _ _ hg (dstOk_spec hd) (mpLen_does hT rfl ht hkind hx hgt) fun h => by cases h) hr, hK⟩

/-- The same where the order is drawn. -/
theorem runs2_mapLen (hT : ∀ t ti, T t = some ti → tiOf P t = some ti) {all : Array Oper} {rest : List Oper} {K : St → List I2 → Prop} {acc : List I2} {dst : Option Tmp} {ty : TypeId} {pos : String} {aft : Array Edge} {gd : Option (Nat × Bool)} {x : Operand} {t : TypeId} {ti : TI} (ht : T t = some ti) {kt et : TypeId} {zo : Option Value} (hkind : ti.kind = .map kt et zo)
    {k : Nat} {kk : IntKind} {d : Int → Bool} {v : Int → PV} (hx : s.ev x = .mptr k) (hgt : hget s.H k = .mp kk d v) (hg : guardA all s { dst := dst, op := .call { callee := .builtin .len, args := #[x], argTypes := #[t] }, type := ty, pos := pos, after := aft, guard := gd } = some true) (hd : dstOk s dst)
    (h : Runs2 P all rest K (s.put dst (.p (.int .i64 (mpLen d : Int)))) (acc ++ [⟨.ld k, .p (.int .i64 (mpLen d : Int)), .dead, false⟩])) : Runs2 P all ({ dst := dst, op := .call { callee := .builtin .len, args := #[x], argTypes := #[t] }, type := ty, pos := pos, after := aft, guard := gd } :: rest) K s acc := by
  obtain ⟨s', xs, hr, hK⟩ := h
  have hkl : k < s.H.length := (List.getElem?_eq_some_iff.1 (hget_some hgt (by simp))).1
  refine ⟨s', ⟨.ld k, .p (.int .i64 (mpLen d : Int)), .dead, false⟩ :: xs, .op hg (dstOk_spec hd) ⟨hkl, fun s2 hn ha hH => ?_⟩ (fun h => by cases h) hr, by rw [List.append_assoc] at hK; exact hK⟩
  refine mpLen_does (s := s2) hT rfl ht hkind (k := k) (kk := kk) (d := d) (v := v) ?_ (by rw [hH]; exact hgt)
  rw [← hx]
  exact ha x (by simp [Op.operands, Call.operands])

end

end Go.Pv

/-
  A loop over a map of one's own: its entries come in whatever order. Conditions: none; a library text.
-/
set_option linter.all false
namespace Go.Pv
open Go.RowKit

section
variable {P : Program} {C : Ctx} {m : Map} {s : St} {tmps : Array Value} {w : World}

/-- The frame where some blocks are left alone. -/
def holdC (C : Ctx) (X : Nat → Prop) (w : World) : Ctx := ⟨fun b => C.okA b ∨ C.B b, fun b => C.B b ∧ ¬ X b, w, C.anc⟩

theorem holdC_ok (C : Ctx) (X : Nat → Prop) (w0 : World) (m : Map) (H : Heap) (w : World) : OK (holdC C X w0) m H w = OK C m H w := by
  funext b
  unfold OK holdC
  refine propext ⟨fun h => ⟨?_, h.2⟩, fun h => ⟨.inl h.1, h.2⟩⟩
  rcases h.1 with h1 | h1
  · exact h1
  · exact .inr h1.1

theorem Rel.hold (R : Rel C m s tmps w) (X : Nat → Prop) (hX : ∀ b, X b → b < w.heap.size ∧ ∀ cur e sh, w.heap[b]? ≠ some (.cells cur e sh))
    (hmp : ∀ (k : Nat) (kk : IntKind) (d : Int → Bool) (v : Int → PV) (l : Loc), s.H[k]? = some (Blk.mp kk d v) → m k = some l → ¬ X l.g) (hlp : ∀ b, X b → ∀ rr, w.heap[b]? ≠ some (.loop rr)) : Rel (holdC C X w) m s tmps w := by
  have e := holdC_ok C X w m s.H w
  refine ⟨by rw [e]; exact R.laid, BelowP.refl _ _, fun b hb => ⟨R.base b hb, fun hx => by have := (hX b hx).1; omega⟩, R.size, R.inj, fun k c h => ?_, by rw [e]; exact R.fro, by rw [e]; exact R.slot, fun k kk d v h => ?_, R.mp.2.1, R.mp.2.2.1, fun k rr h => (let ⟨l, a1, a2, a3⟩ := R.mp.2.2.2.1 k rr h; ⟨l, a1, ⟨a2, fun hx => hlp _ hx _ a3⟩, a3⟩), R.mp.2.2.2.2⟩
  · rw [e]
    rcases R.blk k c h with h1 | ⟨l, cur, ee, a1, a2, a3, a4⟩
    · exact .inl h1
    · exact .inr ⟨l, cur, ee, a1, ⟨a2, fun hx => (hX _ hx).2 _ _ _ a3⟩, a3, a4⟩
  · rw [e]
    obtain ⟨l, ar, clk, vs, a1, a2, a3⟩ := R.mp.1 k kk d v h
    exact ⟨l, ar, clk, vs, a1, ⟨a2, hmp k kk d v l h a1⟩, a3⟩

/-! ### The loop -/

end
end Go.Pv

/-
  Steps of a region beside those that are evaluated: literal rows as one's own, entries of literal maps. Conditions: none; a library text.
-/
set_option linter.all false

namespace Go.Pv
open Go.RowKit
section
variable {P : Program} {T : TypeId → Option TI} {s : St}
section
variable {C : Ctx} {m : Map} {tmps : Array Value} {w : World}
end
end
end Go.Pv

/-
  Loops over a function: rounds as values, the statement, who calls yield. Conditions: none; a library text.
-/
set_option linter.all false
namespace Go.Pv
open Go.RowKit

section
variable {P : Program} {T : TypeId → Option TI} {C : Ctx} {m : Map} {s : St} {tmps : Array Value} {w : World}

/-! ### Contracts where the first q blocks stay -/

def FnQ (P : Program) (q : Nat) (f : FuncId) (args : List AV) (H0 : Heap) (r : AV) (H1 : Heap) : Prop :=
  Fun P f ∧ ∀ (C : Ctx) (m : Map) (w : World) (vals : Array Value), Rel C m ⟨args.length, entA 0 args, H0 ++ ancs 0 q⟩ vals w →
    Calls P f vals w fun e w' => ∃ v m', e = .returned v ∧ Rel C m' ⟨1, [(0, r)], H1 ++ ancs 0 q⟩ #[v] w'

theorem fnq_of (hT : ∀ t ti, T t = some ti → tiOf P t = some ti) {q : Nat} {f : FuncId} {fn : Func} {c : Code} {args : List AV} {av : AV} {H0 H1 : Heap} (hf : P.funcs[f]? = some fn) (hb : fn.body = some c) (hnm : (fn.name == "runtime.NumGoroutine") = false) (hn : args.length ≤ fn.ntmps)
    (h : Holds P c (PostG T fn.results.toList av (H1 ++ ancs 0 q)) ⟨fn.ntmps, entA 0 args, H0 ++ ancs 0 q⟩) : FnQ P q f args H0 av H1 := by
  refine ⟨⟨fn, hf, hnm, by rw [hb]; rfl⟩, fun C m w vals R0 => calls_of_wp hf hb (wpR_none.1 ?_)⟩
  have hsz : vals.size = args.length := R0.size
  have R : Rel C m ⟨fn.ntmps, entA 0 args, H0 ++ ancs 0 q⟩ (vals ++ Array.replicate (fn.ntmps - vals.size) undef) w := by
    refine ⟨R0.laid, R0.below, R0.base, by simp; omega, R0.inj, R0.blk, R0.fro, fun t => ?_, R0.mp⟩
    have hs := R0.slot t
    by_cases ht : t < vals.size
    · rw [Array.getD_eq_getD_getElem?, Array.getElem?_append_left ht, ← Array.getD_eq_getD_getElem?]
      exact hs
    · have e : lk (entA 0 args) t = .dead := by
        rw [entA_lk, if_pos (Nat.zero_le _), List.getD_eq_getElem?_getD, List.getElem?_eq_none (by omega)]; rfl
      unfold St.get
      simp only
      rw [e]
      exact .dead _
  refine wpR_mono (h none [] _ _ { tmps := vals ++ Array.replicate (fn.ntmps - vals.size) undef, defers := [] } w R rfl) fun e a' w' ⟨s', m', h1, h2, h3⟩ => ?_
  have fini : endG T fn.results.toList av (H1 ++ ancs 0 q) s' → a'.defers = [] ∧ ∃ v, (results fn a'.tmps).run P w' = .ok v w' ∧ ∃ v_1 m'', Ending.returned v = .returned v_1 ∧ Rel C m'' ⟨1, [(0, av)], H1 ++ ancs 0 q⟩ #[v_1] w' := by
    intro he
    unfold endG at he
    split at he
    · rename_i p l hl
      obtain ⟨hp, π, hav, hsc, hle⟩ := he
      obtain ⟨vs, e1, e2, e3⟩ := rvsA_run hT h2 fn.results.toList hl hp
      have hv := mkTup_val (w := w') e2 e3
      have R' := h2.weaken hle
      rw [hav] at hv
      have hlen : (H1 ++ ancs 0 q).length = π.length := (hle.2.2.1.get).1.symm
      have ho := OK.weaken (C := C) (m := m') (w := w') hle.2.2.1
      have hv2 := hv.unren (fun p v h => h.mono ho) hlen hsc
      refine ⟨h3, (if h : vs.toArray.size = 1 then vs.toArray[0] else .tuple vs.toArray), ?_, _, _, rfl, R'.laid, R'.below, R'.base, rfl, R'.inj, R'.blk, R'.fro, fun t => ?_, R'.mp⟩
      · rw [results_eq, Array.mapM_eq_mapM_toList]
        simp only [Sem.run_bind, Sem.run_map]
        rw [e1]
        simp only [Result.andThen_ok]
        rfl
      · cases t with
        | zero => exact hv2
        | succ t => exact .dead _
    · exact he.elim
  cases e with
  | normal => exact fini h1
  | ret => exact fini h1
  | _ => exact h1.elim

/-- Who is called: with what it has captured. -/
def clA : AV → Option (FuncId × List AV)
  | .cl g l => some (g, l)
  | .p (.fn g l) => some (g, l.map .p)
  | _ => none

theorem clA_val {a : Act} (R : Rel C m s a.tmps w) {fo : Operand} {g : FuncId} {cap : List AV} (h : clA (s.ev fo) = some (g, cap)) :
    ∃ vs : Array Value, a.eval fo = .func (.func g) #[] vs ∧ vs.size = cap.length ∧ ∀ c (h : c < cap.length), AVal (Reads (OK C m s.H w) w) m s.H cap[c] (vs.getD c undef) := by
  have hv := R.ev fo
  generalize a.eval fo = v at hv
  unfold clA at h
  split at h
  · rename_i g' l e
    simp only [Option.some.injEq, Prod.mk.injEq] at h
    obtain ⟨rfl, rfl⟩ := h
    rw [e] at hv
    cases hv with
    | cl _ _ vs hl hr => exact ⟨vs, rfl, hl, hr⟩
  · rename_i g' l e
    simp only [Option.some.injEq, Prod.mk.injEq] at h
    obtain ⟨rfl, rfl⟩ := h
    rw [e] at hv
    have hv := hv.p_inv
    cases hv with
    | fn _ _ vs hl hr =>
      refine ⟨vs, rfl, by simpa using hl, fun c hc => ?_⟩
      rw [List.getElem_map]
      exact .p _ _ (hr c (by simpa using hc))
  · cases h

/-- The state of who is lent blocks. -/
theorem Rel.lend (R : Rel C m s tmps w) {q : Nat} {ks : List Nat} {avs : List AV} {H0 : Heap} {vals : Array Value} (hle : LeH ks s.H ks H0) (hnd : ks.Nodup) (hq : q ≤ H0.length) (hna : H0.all notAnc = true) (hsz : vals.size = avs.length)
    (hv : ∀ t (h : t < avs.length), AVal (Reads (OK (subC C m s.H ks H0 w) (mren m ks) H0 w) w) (mren m ks) H0 avs[t] (vals.getD t undef)) : Rel (subC C m s.H ks H0 w) (mren m ks) ⟨avs.length, entA 0 avs, H0 ++ ancs 0 q⟩ vals w := by
  obtain ⟨g1, g2⟩ := hle.get
  have ho1 : ∀ b, OK C m s.H w b → OK (subC C m s.H ks H0 w) (mren m ks) H0 w b := by
    refine fun b h => ⟨.inl h, h.2.1, fun k c l hk hl => ?_⟩
    obtain ⟨k', d, a1, a2, _⟩ := LeH.own g2 k c hk
    simp only [mren, a1, Option.bind_some] at hl
    exact h.2.2 k' _ l a2 hl
  have R0 : Rel (subC C m s.H ks H0 w) (mren m ks) ⟨avs.length, entA 0 avs, H0⟩ vals w := by
    refine R.weakenC (s1 := ⟨avs.length, entA 0 avs, H0⟩) hsz hnd hle ho1 (BelowP.refl _ _) (fun b h => .inl h) (fun k b l h hw hl _ => .inr ⟨k, b, l, h, hw, hl, rfl⟩) (fun k i j h => ?_) fun t => ?_
    · exact absurd rfl (notAnc_spec ((List.all_eq_true.1 hna) _ (List.mem_of_getElem? h)) i j)
    · unfold St.get
      simp only
      rw [entA_lk, if_pos (Nat.zero_le _), Nat.sub_zero]
      by_cases ht : t < avs.length
      · have := hv t ht
        simpa [List.getD, List.getElem?_eq_getElem ht] using this
      · rw [List.getD_eq_getElem?_getD, List.getElem?_eq_none (by omega)]
        exact .dead _
  exact R0.addAnc (n := q) hq fun i _ => rfl

theorem lend_ok {ks : List Nat} {H0 : Heap} (hle : LeH ks s.H ks H0) : ∀ b, OK C m s.H w b → OK (subC C m s.H ks H0 w) (mren m ks) H0 w b := by
  obtain ⟨g1, g2⟩ := hle.get
  refine fun b h => ⟨.inl h, h.2.1, fun k c l hk hl => ?_⟩
  obtain ⟨k', d, a1, a2, _⟩ := LeH.own g2 k c hk
  simp only [mren, a1, Option.bind_some] at hl
  exact h.2.2 k' _ l a2 hl

theorem scQ_parts {q : Nat} {r : AV} {H0 H1 : Heap} (h : scQ q r H0 H1 = true) : q ≤ H1.length ∧ q ≤ H0.length ∧ H0.all notAnc = true := by
  unfold scQ at h
  rw [Bool.and_eq_true, Bool.and_eq_true, Bool.and_eq_true, Bool.and_eq_true, Bool.and_eq_true, Bool.and_eq_true, decide_eq_true_eq, decide_eq_true_eq] at h
  exact ⟨h.1.1.1.1.2, h.1.1.1.2, h.2⟩

theorem call_doesQ {o : Oper} {fo : Operand} {args : Array Operand} {ts : Array TypeId} (ho : o.op = .call { callee := .value fo, args := args, argTypes := ts }) {g : FuncId} {cap : List AV} (hfo : clA (s.ev fo) = some (g, cap)) {q : Nat} {ks : List Nat} {avs : List AV} {H0 H1 : Heap} {r : AV}
    (hc : FnQ P q g avs H0 r H1) (hargs : argsM s.H ks (args.toList.map s.ev ++ cap) avs) (hle : LeH ks s.H ks H0) (hnd : ks.Nodup) (hks : ks.all (fun k => decide (k < s.H.length)) = true) (hsc : scQ q r H0 H1 = true) :
    DoesW P o s (Go.Pv.ren (ks.take q ++ List.range' s.H.length (H1.length - q)) r) (putM (kills s.H (ks.drop q)) (ks.take q) (H1.map (Blk.ren (ks.take q ++ List.range' s.H.length (H1.length - q))))) := by
  intro C m a w K Q R hK
  have hks' : ∀ k ∈ ks, k < s.H.length := fun k hk => by simpa using (List.all_eq_true.1 hks) k hk
  obtain ⟨vs, hfe, hcl, hcr⟩ := clA_val R hfo
  obtain ⟨⟨fn, hfn, hnm, hbd⟩, hcalls⟩ := hc
  obtain ⟨_, hq, hna⟩ := scQ_parts hsc
  have hrun : (execOp a.eval o).run P w = .ok (.enter g (args.map a.eval ++ vs)) w := by
    have hnm' : ¬ fn.name = "runtime.NumGoroutine" := by simpa using hnm
    have hbd' : ¬ fn.body = none := by intro e; rw [e] at hbd; simp at hbd
    simp [execOp, ho, resolve, hfe, Deferred.ofValue, invoke, callFunc, hfn, hnm', hbd']
  refine opR_of_wp (by rw [ho]; rfl) ?_
  unfold Oper.wp
  rw [hrun]
  simp only [Oper.upon]
  have g1 := (hle.get).1
  obtain ⟨e1, e2⟩ := argsM_val R (rd' := Reads (OK (subC C m s.H ks H0 w) (mren m ks) H0 w) w) (H0 := H0) (fun p v h => h.mono (lend_ok hle)) g1.symm _ avs (fun i => (args.map a.eval ++ vs).getD i undef) hargs fun i hi => by
    simp only [List.length_append, List.length_map, Array.length_toList] at hi
    by_cases hip : i < args.size
    · rw [List.getElem_append_left (by simpa using hip)]
      simp only [Array.getD_eq_getD_getElem?]
      rw [Array.getElem?_append_left (by simpa using hip)]
      have := R.ev args[i]
      simpa [Array.getElem?_eq_getElem hip] using this
    · rw [List.getElem_append_right (by simp; omega)]
      simp only [Array.getD_eq_getD_getElem?]
      rw [Array.getElem?_append_right (by simp; omega)]
      simp only [List.length_map, Array.length_toList, Array.size_map]
      have := hcr (i - args.size) (by omega)
      rw [Array.getD_eq_getD_getElem?] at this
      exact this
  have hsz : (args.map a.eval ++ vs).size = avs.length := by
    rw [e1]; simp; omega
  have R0' := R.lend (q := q) hle hnd hq hna hsz e2
  refine (hcalls _ _ w _ R0').mono fun e w' ⟨v, m', he, R1⟩ => ?_
  subst he
  obtain ⟨m2, R2, hv, _⟩ := R.joinQ hle hks' R1 hsc
  exact hK v m2 w' R2 hv

/-- THE WORD OF THE WALK: a call that is lent blocks; the first q stay in their places. -/
theorem runs_callQ {all : Array Oper} {rest : List Oper} {K : St → Prop} {dst : Option Tmp} {ty : TypeId} {pos : String} {aft : Array Edge} {gd : Option (Nat × Bool)} {fo : Operand} {args : Array Operand} {ts : Array TypeId} {g : FuncId} {avs : List AV} {H0 H1 : Heap} {r : AV} {q : Nat} (ks : List Nat)
    (hc : FnQ P q g avs H0 r H1) {cap : List AV} (hfo : clA (s.ev fo) = some (g, cap)) (hg : guardA all s { dst := dst, op := .call { callee := .value fo, args := args, argTypes := ts }, type := ty, pos := pos, after := aft, guard := gd } = some true)
    (hargs : argsM s.H ks (args.toList.map s.ev ++ cap) avs) (hle : LeH ks s.H ks H0) (hnd : ks.Nodup) (hks : ks.all (fun k => decide (k < s.H.length)) = true) (hsc : scQ q r H0 H1 = true) (hd : dstOk s dst)
    (h : Runs P false all rest K (({ s with H := putM (kills s.H (ks.drop q)) (ks.take q) (H1.map (Blk.ren (ks.take q ++ List.range' s.H.length (H1.length - q)))) } : St).put dst (Go.Pv.ren (ks.take q ++ List.range' s.H.length (H1.length - q)) r))) :
    Runs P false all ({ dst := dst, op := .call { callee := .value fo, args := args, argTypes := ts }, type := ty, pos := pos, after := aft, guard := gd } :: rest) K s := by
  obtain ⟨s', hr, hK⟩ := h
  exact ⟨s', .cons (.op s _ _ hg (dstOk_spec hd) (call_doesQ rfl hfo hc hargs hle hnd hks hsc) fun h => by cases h) hr, hK⟩

/-! ### Who calls yield -/

end
end Go.Pv

/-
  Walks: a map of some things, spread to all. Conditions: none.
-/
set_option linter.all false
namespace Go.Proofs.Ytboadfahlflmhaa
open Go.Pv

theorem rgz_neg (n : Nat) : rgz n (fun a => if a < n then -1 else 0) = prow n (fun _ => false) (fun _ => 0) := by
  unfold rgz prow
  exact List.map_congr_left fun a ha => by simp [List.mem_range.1 ha]

section
variable {n e N d : Nat} {m M : List Int}

end
end Go.Proofs.Ytboadfahlflmhaa

/-
  Loops over a function: a round out of its body's walk; the statement. Conditions: none; a library text.
-/
set_option linter.all false
namespace Go.Pv
open Go.RowKit

section
variable {P : Program} {T : TypeId → Option TI} {C : Ctx} {m : Map} {s : St} {tmps : Array Value} {w : World}

/-- A hole for a loop's record. -/
structure HoleQ (κ : Nat) (Hf : Blk → Heap) : Prop where
  at_ : ∀ b, (Hf b)[κ]? = some b
  set_ : ∀ b b', hset (Hf b) κ b' = Hf b'

theorem HoleQ.lt {κ : Nat} {Hf : Blk → Heap} (h : HoleQ κ Hf) (b : Blk) : κ < (Hf b).length := (List.getElem?_eq_some_iff.1 (h.at_ b)).1
structure RecOk (rec : Loop) (n pp : Nat) (assign body : Code) : Prop where
  params : rec.params = #[pp]
  assign : rec.assign = assign
  body : rec.body = body
  state : rec.state = .ready
  pending : rec.pending = none
  size : rec.tmps.size = n

/-! ### Code with a loop over a function -/

variable {Q : Exit → St → Prop}

end
end Go.Pv

/-
  Calls that hand out fresh rows of plain values; functions with captured rows of the call's own. Conditions: none.
-/
set_option linter.all false
namespace Go.Pv
open Go.RowKit

section
variable {P : Program} {s : St}

/-- A contract whose result lies in memory that is new: whatever the arguments may be. -/
def FnF (P : Program) (f : FuncId) (args : List PV) (r : PV) : Prop :=
  Fun P f ∧ ∀ (okA : Nat → Prop) (w : World) (vals : Array Value), LaidW okA w → vals.size = args.length → (∀ i (h : i < args.length), Reads okA w args[i] (vals.getD i undef)) →
    Calls P f vals w fun e w' => ∃ v, e = .returned v ∧ Go.Pv.Below w.heap.size w w' ∧ Reads (fun b => w.heap.size ≤ b ∧ b < w'.heap.size) w' r v

/-- Plain data: no memory. -/
def PV.sc : PV → Bool
  | .int _ _ => true
  | .bool _ => true
  | .str _ => true
  | _ => false

theorem sc_reads {ok ok' : Nat → Prop} {w : World} {p : PV} {v : Value} (h : Reads ok w p v) (hs : p.sc = true) : Reads ok' w p v := by
  cases h <;> simp [PV.sc] at hs
  · exact .int _ _
  · exact .bool _
  · exact .str _

theorem FnG_fnf {f : FuncId} {args l : List PV} (h : FnG P f args (.sl 0 0 l.length) [.own (opl l)]) (hsc : l.all PV.sc = true) : FnF P f args (.list l) := by
  have hone : l.all PV.one = true := List.all_eq_true.2 fun x hx => by
    have := (List.all_eq_true.1 hsc) x hx
    cases x <;> simp [PV.sc] at this <;> rfl
  refine ⟨h.1, fun okA w vals h1 h2 h3 => (h.2 okA w vals h1 h2 h3).mono fun e w' ⟨v, m', he, hbl, ho⟩ => ⟨v, he, hbl, ?_⟩⟩
  cases ho.val with
  | sl _ _ _ _ hk hs =>
    rcases hs with ⟨h0, ad, rfl⟩ | ⟨lc, cap, hm, rfl, hc1, hc2⟩
    · have : l = [] := List.eq_nil_of_length_eq_zero h0
      subst this
      exact .list0 _ _ fun _ => rfl
    · rcases ho.blk 0 (opl l) rfl with ⟨hn, _⟩ | ⟨l', cur, e', hm2, hB, hh, hs1, hs3, hs2, hcells⟩
      · have : l = [] := List.map_eq_nil_iff.1 hn
        subst this
        exact .list0 _ _ fun h => by cases h
      · rw [hm] at hm2; cases hm2
        rw [opl_length] at hs2
        refine row_reads rfl hone ⟨hB, (Array.getElem?_eq_some_iff.1 hh).1⟩ hc1 (fun j => cur.getD (lc.o + j) undef) (fun j hj => ?_) fun j hj => ?_
        · have : lc.o + 0 + j = lc.o + j := by omega
          rw [this]; exact cell_of hh (by omega)
        · have := hcells j (by rw [opl_length]; exact hj)
          have e2 : (opl l)[j]'(by rw [opl_length]; exact hj) = .p l[j] := by simp [opl]
          rw [e2] at this
          exact sc_reads this.p_inv ((List.all_eq_true.1 hsc) _ (List.getElem_mem hj))

theorem call_doesF {o : Oper} {fo : Operand} {args : Array Operand} {ts : Array TypeId} (ho : o.op = .call { callee := .value fo, args := args, argTypes := ts }) {g : FuncId} {avs : List PV} {p : Prop} {b : Bool} {r : PV}
    (hc : FnF P g avs r) (hcall : callA s fo args = some (g, avs, p, b)) (hp : p) : DoesW P o s (.p r) s.H := by
  intro C m a w K Q R hK
  unfold callA at hcall
  split at hcall
  · rename_i g' cap hf
    split at hcall <;> simp only [Option.some.injEq, Prod.mk.injEq, reduceCtorEq] at hcall
    rename_i p' pvs b' hpl
    obtain ⟨rfl, rfl, rfl, rfl⟩ := hcall
    have hfv := R.ev fo
    rw [hf] at hfv
    generalize hfe : a.eval fo = fv at hfv
    have hfv := hfv.p_inv
    cases hfv with
    | fn _ _ vs hcl hcr =>
      obtain ⟨⟨fn, hfn, hnm, hbd⟩, hcalls⟩ := hc
      obtain ⟨e1, e2, e3⟩ := peekList_val (C := C) (m := m) (w := w) (H := s.H) (fun {x v p pv b} (hx : AVal (Reads (OK C m s.H w) w) m s.H x v) h hp => peekG_val R hx h hp) (args.toList.map s.ev) (fun c => (args.toList.map a.eval).getD c undef) (fun c hc => by
        simp only [List.length_map] at hc
        have := R.ev (args.toList[c])
        simpa [List.getD, List.getElem?_map, List.getElem?_eq_getElem hc] using this) hpl hp
      simp only [List.length_map] at e1
      have hvals : ∀ i (h : i < (pvs ++ cap).length), (args.map a.eval ++ vs).getD i undef = if i < pvs.length then (args.toList.map a.eval).getD i undef else vs.getD (i - pvs.length) undef := by
        intro i hi
        simp only [Array.getD_eq_getD_getElem?]
        by_cases hip : i < pvs.length
        · rw [if_pos hip, Array.getElem?_append_left (by simp at e1 ⊢; omega)]
          simp [List.getD]
        · rw [if_neg hip, Array.getElem?_append_right (by simp at e1 ⊢; omega)]
          congr 2
          simp at e1 ⊢; omega
      have hrun : (execOp a.eval o).run P w = .ok (.enter g' (args.map a.eval ++ vs)) w := by
        have hnm' : ¬ fn.name = "runtime.NumGoroutine" := by simpa using hnm
        have hbd' : ¬ fn.body = none := by intro e; rw [e] at hbd; simp at hbd
        simp [execOp, ho, resolve, hfe, Deferred.ofValue, invoke, callFunc, hfn, hnm', hbd']
      refine opR_of_wp (by first | rfl | (rw [ho]; rfl)) ?_
      unfold Oper.wp
      rw [hrun]
      simp only [Oper.upon]
      have hsz : (args.map a.eval ++ vs).size = (pvs ++ cap).length := by simp at e1 ⊢; omega
      refine (hcalls (fun b => b < w.heap.size) w _ R.laidLt hsz fun i hi => ?_).mono fun e w' ⟨v, he, hbl, hv⟩ => ?_
      · rw [hvals i hi]
        by_cases hip : i < pvs.length
        · rw [if_pos hip, List.getElem_append_left hip]; exact (e2 i hip).mono fun b hb => hb.2
        · rw [if_neg hip, List.getElem_append_right (by omega)]; exact (hcr _ (by simp at hi; omega)).mono fun b hb => hb.2.1
      · subst he
        refine hK v m w' (R.later hbl) (.p _ _ (hv.mono fun b hb => ⟨.inr (R.base _ hb.1), hb.2, fun k c l hk hl e' => ?_⟩))
        have := (R.wrLt hk rfl hl).2
        have := hb.1
        omega
  · cases hcall

theorem call_locF {o : Oper} {fo : Operand} {args : Array Operand} {ts : Array TypeId} (ho : o.op = .call { callee := .value fo, args := args, argTypes := ts }) {g : FuncId} {avs : List PV} {p : Prop} {b : Bool} {r : PV}
    (hc : FnF P g avs r) (hcall : callA s fo args = some (g, avs, p, b)) (hp : p) : Loc1 P o s (.p r) s.H := by
  refine ⟨fun s2 hn ha hH => ?_, fun hf => ?_, fun _ => rfl⟩
  · have := callA_congr (ts := ts) (s := s) (s2 := s2) (fo := fo) (args := args) (by rw [← ho]; exact ha) hH
    rw [hcall] at this
    rw [← hH]
    exact call_doesF ho hc this hp
  · rw [ho] at hf; simp [isT] at hf

theorem runs_callF {draw : Bool} {all : Array Oper} {rest : List Oper} {K : St → Prop} {dst : Option Tmp} {ty : TypeId} {pos : String} {aft : Array Edge} {gd : Option (Nat × Bool)} {fo : Operand} {args : Array Operand} {ts : Array TypeId} {g : FuncId} {avs : List PV} {p : Prop} {b : Bool} {r : PV}
    (hc : FnF P g avs r) (hg : guardA all s { dst := dst, op := .call { callee := .value fo, args := args, argTypes := ts }, type := ty, pos := pos, after := aft, guard := gd } = some true)
    (hcall : callA s fo args = some (g, avs, p, b)) (hd : dstOk s dst) (hp : p) (h : Runs P draw all rest K (s.put dst (.p r))) :
    Runs P draw all ({ dst := dst, op := .call { callee := .value fo, args := args, argTypes := ts }, type := ty, pos := pos, after := aft, guard := gd } :: rest) K s := by
  obtain ⟨s', hr, hK⟩ := h
  exact ⟨s', .cons (.op s (.p r) s.H hg (dstOk_spec hd) (call_doesF rfl hc hcall hp) fun _ => call_locF rfl hc hcall hp) hr, hK⟩

end

/-- A function with captured values, of whatever make. -/
theorem makeCl_does {P : Program} {s : St} {o : Oper} {f : FuncId} {first : Array Operand} {caps : Array Operand} (ho : o.op = .makeFunc (.func f) first caps) (hf : first.isEmpty = true) : DoesW P o s (.cl f (caps.toList.map s.ev)) s.H := by
  intro C m a w K Q R hK
  have hfe : first = #[] := by simpa using hf
  have hrun : (execOp a.eval o).run P w = .ok (.value (.func (.func f) #[] (caps.map a.eval))) w := by
    simp [execOp, ho, hfe, Instr.makeFunc]
  refine opR_of_wp (by first | rfl | (rw [ho]; rfl)) ?_
  unfold Oper.wp
  rw [hrun]
  refine hK _ m w R (.cl _ _ _ (by simp) fun c hc => ?_)
  have hc' : c < caps.size := by simpa using hc
  have e1 : (caps.map a.eval).getD c undef = a.eval caps[c] := by simp [Array.getD_eq_getD_getElem?, hc']
  have e2 : (caps.toList.map s.ev)[c] = s.ev caps[c] := by simp
  rw [e1, e2]
  exact R.ev _
end Go.Pv
namespace Go.Proofs.Ytboadfahlflmhaa
open Go.Pv

theorem ol_oplF (w : List Int) : ol w = opl (il w) := rfl
theorem il_scal (l : List Int) : (il l).all PV.sc = true := by simp [il, PV.sc]

theorem those_g (n : Nat) (m : List Int) (F : FuncId) (caps : List PV) (p : Nat → Bool) (hn : n ≤ 1000000) (hF : ∀ a, a < n → FnC Try.prog F (.int .i64 a :: caps) (.bool (p a))) : FnG Try.prog 69 [gp n m, .fn F caps] (.sl 0 0 (il (thl n p)).length) [.own (opl (il (thl n p)))] := by
  refine fng_of tab_ok Try.func69 rfl (by kernel_rfl) (by rw [Try.ntmps69]; exact Nat.le_add_left 2 _) ?_; rw [Try.ntmps69]
  refine qm ?_
  refine hk_region fun K hK => runs_eval tab_ok ?_
  simp only [ev0, evA, evB, evP, fl, gp, tab, simprocAttr, reduceCtorEq, reduceIte]
  refine fin_run ?_ (hK _ ?_) <;> clear hK <;> clear K
  · (first | exact trivial | omega | (simp only [In64] at *; omega) | (simp [In64] at *; omega) | (simp_all; done) | skip)
  refine qa (qm ?_)
  refine hk_region fun K hK => runs_eval tab_ok ?_
  simp only [ev0, evA, evB, evP, fl, gp, tab, simprocAttr, reduceCtorEq, reduceIte]
  refine fin_run trivial (hK _ ?_) <;> clear hK <;> clear K
  refine qa (qm (qm ?_))
  refine hk_region fun K hK => runs_eval tab_ok ?_
  simp only [ev0, evA, evB, evP, fl, gp, tab, simprocAttr, reduceCtorEq, reduceIte]
  refine fin_run trivial (hK _ ?_) <;> clear hK <;> clear K
  refine qa (ql ?_)
  refine hk_own0 5 rfl ?_
  refine hk_loop (ι := Nat) (fun i => ⟨21, [(1, .p (.fn F caps)), (2, .ptr 0 0), (5, .sl 1 0 (thl i p).length), (6, .p (.int .i64 i))], [.own [.p (.int .i64 n), .p (.list (il m))], .own (ol (thl i p))]⟩) (fun i => i ≤ n) (fun i => n - i) 0 (Nat.zero_le _) [0, 1] (by simp only [leq, leA, ev0, evA, evB, evP, fl, gp, tab, simprocAttr, reduceCtorEq, reduceIte] <;> simp [thl, thn', ol_nil]) fun i hi => ?_
  have hl := thl_le i p
  refine qm (qm ?_)
  refine hk_region fun K hK => runs_eval tab_ok ?_
  simp only [ev0, evA, evB, evP, fl, gp, tab, simprocAttr, reduceCtorEq, reduceIte]
  refine fin_run ?_ (hK _ ?_) <;> clear hK <;> clear K
  · (first | exact trivial | omega | (simp only [In64] at *; omega) | (simp [In64] at *; omega) | (simp_all; done) | skip)
  refine qa ?_
  refine hk_cond rfl (fun hC1 => ?_) (fun hC1 => ?_)
  · (try simp only [nhs] at hC1)
    have hlt : i < n := by omega
    have hs := thl_succ i p
    refine qh (qa (qm (ql (qm ?_))))
    refine hk_region fun K hK => runs_eval tab_ok ?_
    simp only [ev0, evA, evB, evP, fl, gp, tab, simprocAttr, reduceCtorEq, reduceIte]
    refine fin_stop trivial (runs_call (hF i hlt) rfl rfl rfl (by simp only [dstOk, Nat.reduceLT]) (by repeat (first | exact trivial | constructor)) (runs_eval tab_ok ?_))
    simp only [ev0, evA, evB, evP, fl, gp, tab, simprocAttr, reduceCtorEq, reduceIte]
    refine fin_run trivial (hK _ ?_) <;> clear hK <;> clear K
    refine qa ?_
    refine hk_cond rfl (fun hC2 => ?_) (fun hC2 => ?_)
    · (try simp only [nhs] at hC2)
      rw [if_pos hC2] at hs
      refine hk_region fun K hK => runs_eval tab_ok ?_
      simp only [ev0, evA, evB, evP, fl, gp, tab, simprocAttr, reduceCtorEq, reduceIte]
      refine fin_run ?_ (hK _ ?_) <;> clear hK <;> clear K
      · (first | exact trivial | omega | (simp only [In64] at *; omega) | (simp [In64] at *; omega) | (simp_all; done) | skip)
      refine qd (qa ?_)
      refine hk_region fun K hK => runs_eval tab_ok ?_
      simp only [ev0, evA, evB, evP, fl, gp, tab, simprocAttr, reduceCtorEq, reduceIte]
      refine fin_run ?_ (hK _ ?_) <;> clear hK <;> clear K
      · (first | exact trivial | omega | (simp only [In64] at *; omega) | (simp [In64] at *; omega) | (simp_all; done) | skip)
      refine qa ?_
      refine ⟨i + 1, [0, 2], by omega, by omega, ?_⟩
      rw [hs]
      simp only [leq, leA, ev0, evA, evB, evP, fl, gp, tab, simprocAttr, reduceCtorEq, reduceIte] <;> first | trivial | omega
    · (try simp only [nhs] at hC2)
      rw [if_neg (by rw [hC2]; simp)] at hs
      refine qh (qd (qa ?_))
      refine hk_region fun K hK => runs_eval tab_ok ?_
      simp only [ev0, evA, evB, evP, fl, gp, tab, simprocAttr, reduceCtorEq, reduceIte]
      refine fin_run ?_ (hK _ ?_) <;> clear hK <;> clear K
      · (first | exact trivial | omega | (simp only [In64] at *; omega) | (simp [In64] at *; omega) | (simp_all; done) | skip)
      refine qa ?_
      refine ⟨i + 1, [0, 1], by omega, by omega, ?_⟩
      rw [hs, List.append_nil]
      simp only [leq, leA, ev0, evA, evB, evP, fl, gp, tab, simprocAttr, reduceCtorEq, reduceIte] <;> first | trivial | omega
  · (try simp only [nhs] at hC1)
    have hin : i = n := by omega
    subst hin
    refine qj (qc (qc (qf (qa (qm ?_)))))
    refine hk_region fun K hK => runs_eval tab_ok ?_
    simp only [ev0, evA, evB, evP, fl, gp, tab, simprocAttr, reduceCtorEq, reduceIte]
    refine fin_run trivial (hK _ ?_) <;> clear hK <;> clear K
    refine qa (qk ?_)
    simp only [Try.results69, PostG, endG, rvsA, rvA, mkTup, ev0, evA, evB, evP, fl, gp, tab, simprocAttr, reduceCtorEq, reduceIte]
    all_goals (exact ⟨[1], rfl, rfl, rfl, by simp, ⟨⟨by rw [← ol_oplF, ol_ren, take_len], opl_sc _ _⟩, trivial⟩, trivial⟩)

end Go.Proofs.Ytboadfahlflmhaa

/-
  Walks: all homomorphisms, handed out one by one. Conditions: none.
-/
set_option linter.all false
namespace Go.Pv
open Go.RowKit

theorem fnc_of_p {P : Program} {f : FuncId} {args : List PV} {pv : PV} (h : FnG P f args (.p pv) []) (hf : pv.flatOnly = true) : FnC P f args pv :=
  ⟨h.1, fun okA w vals h1 h2 h3 => (h.2 okA w vals h1 h2 h3).mono fun e w' ⟨v, m', he, hbl, ho⟩ => ⟨v, he, hbl, flatOnly_reads ho.val.p_inv hf⟩⟩

/-- What a loop over a function does, round by round: what its blocks hold; whether it goes on; how it goes on. -/
structure Prot (σ : Type) where
  c4 : σ → PV
  c51 : σ → PV
  c52 : σ → PV
  R : σ → List PV
  go : σ → PV → Bool
  nx : σ → PV → σ
  ok : σ → Prop
  okx : PV → Prop
  ok_nx : ∀ i x, ok i → okx x → go i x = true → ok (nx i x)
  ones : ∀ i, ok i → (R i).all PV.one = true

variable {σ : Type}
def foldS (p : Prot σ) : σ → List PV → σ × Bool
  | i, [] => (i, true)
  | i, x :: xs => if p.go i x then foldS p (p.nx i x) xs else (p.nx i x, false)
theorem foldS_app (p : Prot σ) : ∀ (i : σ) (xs ys : List PV), foldS p i (xs ++ ys) = if (foldS p i xs).2 then foldS p (foldS p i xs).1 ys else foldS p i xs
  | i, [], ys => by simp [foldS]
  | i, x :: xs, ys => by
    simp only [List.cons_append, foldS]
    split
    · exact foldS_app p _ xs ys
    · rfl
theorem foldS_ok (p : Prot σ) : ∀ (i : σ) (xs : List PV), p.ok i → (∀ x ∈ xs, p.okx x) → (foldS p i xs).2 = true → p.ok (foldS p i xs).1
  | i, [], h, _, _ => h
  | i, x :: xs, h, hx, hb => by
    simp only [foldS] at hb ⊢
    split at hb
    · rename_i hg
      rw [if_pos hg]
      exact foldS_ok p _ xs (p.ok_nx i x h (hx x (by simp)) hg) (fun y hy => hx y (by simp [hy])) hb
    · cases hb

end Go.Pv
namespace Go.Proofs.Ytboadfahlflmhaa
open Go.Pv

section
variable {n e N d : Nat} {m M : List Int}
open Classical in
/-- Where things that make the group go so: the homomorphism, if there is one. -/
noncomputable def hlf (n : Nat) (f : Nat → Nat → Nat) (N : Nat) (g : Nat → Nat → Nat) (L T : List Nat) : List (List Int) := if h : ∃ φ, Ext n f N g L T φ then [tbm n (Classical.choose h)] else []
/-- All that come, where some places are chosen. -/
noncomputable def hsq (n : Nat) (f : Nat → Nat → Nat) (e N : Nat) (g : Nat → Nat → Nat) (d : Nat) (L : List Nat) : List Nat → List Nat → List (List Int)
  | [], t => hlf n f N g L t
  | x :: r, t => ((List.range N).filter fun y => decide (ord n f e x % ord N g d y = 0)).flatMap fun y => hsq n f e N g d L r (t ++ [y])
/-- Up to a place. -/
noncomputable def hsu (n : Nat) (f : Nat → Nat → Nat) (e N : Nat) (g : Nat → Nat → Nat) (d : Nat) (L r t : List Nat) (x y : Nat) : List (List Int) :=
  ((List.range y).filter fun y => decide (ord n f e x % ord N g d y = 0)).flatMap fun y => hsq n f e N g d L r (t ++ [y])
def pls (l : List (List Int)) : List PV := l.map fun w => .list (il w)
theorem pls_app (a b : List (List Int)) : pls (a ++ b) = pls a ++ pls b := by simp [pls]
theorem hsu_succ {f g : Nat → Nat → Nat} {L r t : List Nat} {x y : Nat} : hsu n f e N g d L r t x (y + 1) = if ord n f e x % ord N g d y = 0 then hsu n f e N g d L r t x y ++ hsq n f e N g d L r (t ++ [y]) else hsu n f e N g d L r t x y := by
  unfold hsu
  rw [List.range_succ, List.filter_append, List.flatMap_append]
  by_cases h : ord n f e x % ord N g d y = 0
  · rw [if_pos h]; simp [h]
  · rw [if_neg h]; simp [h]

/-- A row that is filled so far. -/
def rwd (t : List Nat) (n : Nat) : List AV := opl (il (nl t)) ++ List.replicate (n - t.length) .dead
theorem rwd_len {t : List Nat} {n : Nat} (h : t.length ≤ n) : (rwd t n).length = n := by
  simp [rwd, opl_length, il_length, nl_len]; omega
theorem rwd_full {t : List Nat} {n : Nat} (h : t.length = n) : rwd t n = opl (il (nl t)) := by simp [rwd, h]
theorem rwd_ren (t : List Nat) (n : Nat) (π : List Nat) : (rwd t n).map (Go.Pv.ren π) = rwd t n := by
  rw [rwd, List.map_append, opl_ren, List.map_replicate]; rfl
theorem rwd_sc (t : List Nat) (n k : Nat) : (rwd t n).all (scA k) = true := by
  rw [rwd, List.all_append, opl_sc, List.all_replicate]; simp [scA, sc1]
theorem rwd_set {t : List Nat} {n y : Nat} (h : t.length < n) : (rwd t n).set t.length (.p (.int .i64 ((y : Nat) : Int))) = rwd (t ++ [y]) n := by
  have e1 : (opl (il (nl t))).length = t.length := by simp [opl_length, il_length, nl_len]
  obtain ⟨k, rfl⟩ : ∃ k, n = t.length + 1 + k := ⟨n - (t.length + 1), by omega⟩
  rw [rwd, rwd, List.set_append_right _ _ (by omega), e1, Nat.sub_self, show t.length + 1 + k - t.length = k + 1 by omega, List.replicate_succ, List.set_cons_zero,
    List.length_append, List.length_cons, List.length_nil, show t.length + 1 + k - (t.length + (0 + 1)) = k by omega, nl_snoc]
  simp [opl, il]
theorem rwd_get {t : List Nat} {n j : Nat} (h : j < t.length) : (rwd t n)[j]? = some (.p (.int .i64 ((t.getD j 0 : Nat) : Int))) := by
  rw [rwd, List.getElem?_append_left (by rw [opl_length, il_length, nl_len]; exact h)]
  simp [opl, il, nl, List.getElem?_eq_getElem h]
theorem rwd_dead {t : List Nat} {n j : Nat} (h : t.length ≤ j) (hn : j < n) : (rwd t n)[j]? = some .dead := by
  rw [rwd, List.getElem?_append_right (by rw [opl_length, il_length, nl_len]; exact h), opl_length, il_length, nl_len, List.getElem?_replicate, if_pos (by omega)]
/-- Back to what stood. -/
theorem hk_back {P : Program} {Q : Exit → St → Prop} {s : St} {c : Code} (k : Nat) {t : List Nat} {y n : Nat} (hk : hget s.H k = .own (rwd (t ++ [y]) n)) (hl : t.length < n) (h : Holds P c Q { s with H := hset s.H k (.own (rwd t n)) }) : Holds P c Q s := by
  have hl1 : (t ++ [y]).length ≤ n := by simp; omega
  refine hk_cells k hk (by rw [rwd_len (by omega), rwd_len hl1]) (fun C m tmps w R j h1 h2 v hv => ?_) h
  by_cases hj : j < t.length
  · have e : (rwd (t ++ [y]) n)[j] = (rwd t n)[j] := Option.some.inj (by
      rw [← List.getElem?_eq_getElem h1, ← List.getElem?_eq_getElem h2, rwd_get hj, rwd_get (by simp; omega)]
      simp [List.getElem?_append_left hj])
    rw [← e]; exact hv
  · have e : (rwd t n)[j] = .dead := Option.some.inj (by rw [← List.getElem?_eq_getElem h2, rwd_dead (by omega) (by rw [rwd_len (by omega)] at h2; exact h2)])
    rw [e]; exact .dead _

variable {σ : Type}
theorem hsq_mem {f g : Nat → Nat → Nat} {L : List Nat} : ∀ (r t : List Nat) (w : List Int), w ∈ hsq n f e N g d L r t → ∃ φ, Hmo n f N g φ ∧ w = tbm n φ
  | [], t, w, h => by
    unfold hsq hlf at h
    split at h
    · rename_i hex
      exact ⟨_, (Classical.choose_spec hex).1, by simpa using h⟩
    · simp at h
  | x :: r, t, w, h => by
    unfold hsq at h
    obtain ⟨y, _, h⟩ := List.mem_flatMap.1 h
    exact hsq_mem r _ w h
theorem hsu_end {f g : Nat → Nat → Nat} {L r t : List Nat} {x : Nat} : hsq n f e N g d L (x :: r) t = hsu n f e N g d L r t x N := by
  rw [hsq]; rfl
theorem hsu_pre {f g : Nat → Nat → Nat} {L r t : List Nat} {x y : Nat} (h : y ≤ N) : ∃ z, hsq n f e N g d L (x :: r) t = hsu n f e N g d L r t x y ++ z := by
  rw [hsu_end]
  have : ∀ k, ∃ z, hsu n f e N g d L r t x (y + k) = hsu n f e N g d L r t x y ++ z := by
    intro k
    induction k with
    | zero => exact ⟨[], by simp⟩
    | succ k ih =>
      obtain ⟨z, hz⟩ := ih
      rw [← Nat.add_assoc, hsu_succ, hz]
      split
      · exact ⟨_, List.append_assoc _ _ _⟩
      · exact ⟨z, rfl⟩
  obtain ⟨k, hk⟩ : ∃ k, N = y + k := ⟨N - y, by omega⟩
  have := this k
  rwa [← hk] at this
theorem foldS_pre (p : Prot σ) {i : σ} {a b : List PV} (h : (foldS p i a).2 = false) : foldS p i (a ++ b) = foldS p i a := by
  rw [foldS_app, h]; rfl
theorem foldS_on (p : Prot σ) {i : σ} {a b : List PV} (h : (foldS p i a).2 = true) : foldS p i (a ++ b) = foldS p (foldS p i a).1 b := by
  rw [foldS_app, h]; rfl

end
end Go.Proofs.Ytboadfahlflmhaa

/-
  Walks: a map of some things, spread to all: the reference's way. Conditions: none.
-/
set_option linter.all false
namespace Go.Proofs.Ytboadfahlflmhaa
open Go.Pv

section
variable {n N e d : Nat} {f g : Nat → Nat → Nat} {F T : List Nat} {φ : Nat → Nat}
/-- Where the reference stands: no map says otherwise. -/
structure RSp (n : Nat) (f : Nat → Nat → Nat) (e N : Nat) (g : Nat → Nat → Nat) (d : Nat) (F T : List Nat) (S : Nat → Bool) (ψ : Nat → Nat) : Prop where
  one : S e = true ∧ ψ e = d
  lt : ∀ a, a < n → S a = true → ψ a < N
  ref : ∀ φ, Ext n f N g F T φ → ∀ a, a < n → S a = true → ψ a = φ a
/-- A thing's products are there, the first j of them. -/
def RCl (f g : Nat → Nat → Nat) (F T : List Nat) (S : Nat → Bool) (ψ : Nat → Nat) (a j : Nat) : Prop := S a = true → ∀ i, i < j → S (f (F.getD i 0) a) = true ∧ ψ (f (F.getD i 0) a) = g (T.getD i 0) (ψ a)
theorem RSp.begin (G : Grp n f e) (K : Grp N g d) : RSp n f e N g d F T (upd1 (fun _ => false) e) (updF (fun _ => 0) e d) where
  one := ⟨by simp [upd1], updF_eq⟩
  lt a ha h := by
    have : a = e := by simpa [upd1] using h
    rw [this, updF_eq]; exact K.el
  ref φ hφ a ha h := by
    have : a = e := by simpa [upd1] using h
    rw [this, updF_eq, hφ.1.one G K]
theorem RSp.val (G : Grp n f e) (hF : ∀ i, i < F.length → F.getD i 0 < n) {S : Nat → Bool} {ψ : Nat → Nat} (h : RSp n f e N g d F T S ψ) (hφ : Ext n f N g F T φ) {a i : Nat} (ha : a < n) (hS : S a = true) (hi : i < F.length) : φ (f (F.getD i 0) a) = g (T.getD i 0) (ψ a) := by
  rw [hφ.1.mul _ _ (hF i hi) ha, hφ.2 i hi, h.ref φ hφ a ha hS]
theorem RSp.push (G : Grp n f e) (K : Grp N g d) (hF : ∀ i, i < F.length → F.getD i 0 < n) (hT : ∀ i, i < F.length → T.getD i 0 < N) {S : Nat → Bool} {ψ : Nat → Nat} (h : RSp n f e N g d F T S ψ) {a i : Nat} (ha : a < n) (hS : S a = true) (hi : i < F.length) (hb : S (f (F.getD i 0) a) = false) :
    RSp n f e N g d F T (upd1 S (f (F.getD i 0) a)) (updF ψ (f (F.getD i 0) a) (g (T.getD i 0) (ψ a))) := by
  have hne : ∀ x, S x = true → x ≠ f (F.getD i 0) a := fun x hx e => by rw [e, hb] at hx; cases hx
  refine ⟨⟨upd1_true.2 (.inl h.one.1), by rw [updF_ne (hne _ h.one.1)]; exact h.one.2⟩, fun x hx hx2 => ?_, fun φ hφ x hx hx2 => ?_⟩
  · rcases upd1_true.1 hx2 with h1 | rfl
    · rw [updF_ne (hne _ h1)]; exact h.lt x hx h1
    · rw [updF_eq]; exact K.cl _ _ (hT i hi) (h.lt a ha hS)
  · rcases upd1_true.1 hx2 with h1 | rfl
    · rw [updF_ne (hne _ h1)]; exact h.ref φ hφ x hx h1
    · rw [updF_eq, ← h.val G hF hφ ha hS hi]
/-- At the end all is there, and it is a map. -/
theorem RSp.fin (G : Grp n f e) (K : Grp N g d) (hF : ∀ i, i < F.length → F.getD i 0 < n) (hT : ∀ i, i < F.length → T.getD i 0 < N) (hgen : ∀ a, a < n → Gen n f e (fun x => decide (x ∈ F)) a) {S : Nat → Bool} {ψ : Nat → Nat} (h : RSp n f e N g d F T S ψ) (hc : ∀ a, a < n → RCl f g F T S ψ a F.length) :
    (∀ a, a < n → S a = true) ∧ Ext n f N g F T ψ := by
  have hFx : ∀ x, x ∈ F → ∃ i, i < F.length ∧ F.getD i 0 = x := fun x hx => by
    obtain ⟨i, hi, rfl⟩ := List.getElem_of_mem hx
    exact ⟨i, hi, by simp [List.getD, List.getElem?_eq_getElem hi]⟩
  have hall : ∀ a, a < n → S a = true := fun a ha => by
    have key : a < n ∧ ∀ b, b < n → S b = true → S (f a b) = true := Gen.least (H := fun a => a < n ∧ ∀ b, b < n → S b = true → S (f a b) = true) ⟨G.el, fun b hb hS => by rw [G.one_l b hb]; exact hS⟩ (fun c x _ hx hp ih => ⟨G.cl _ _ ih.1 hx, fun b hb hS => by
      obtain ⟨i, hi, rfl⟩ := hFx x (by simpa using hp)
      rw [G.assoc _ _ _ ih.1 hx hb]
      exact ih.2 _ (G.cl _ _ hx hb) (hc b hb hS i hi).1⟩) (hgen a ha)
    have := key.2 e G.el h.one.1
    rwa [G.one_r a ha] at this
  have hx1 : ∀ i, i < F.length → ψ (F.getD i 0) = T.getD i 0 := fun i hi => by
    have := (hc e G.el h.one.1 i hi).2
    rwa [G.one_r _ (hF i hi), h.one.2, K.one_r _ (hT i hi)] at this
  refine ⟨hall, ⟨fun a ha => h.lt a ha (hall a ha), fun a b ha hb => ?_⟩, hx1⟩
  have key : a < n ∧ ∀ b, b < n → ψ (f a b) = g (ψ a) (ψ b) := Gen.least (H := fun a => a < n ∧ ∀ b, b < n → ψ (f a b) = g (ψ a) (ψ b)) ⟨G.el, fun b hb => by rw [G.one_l b hb, h.one.2, K.one_l _ (h.lt b hb (hall b hb))]⟩ (fun c x _ hx hp ih => ⟨G.cl _ _ ih.1 hx, fun b hb => by
    obtain ⟨i, hi, rfl⟩ := hFx x (by simpa using hp)
    have h1 := h.lt _ ih.1 (hall _ ih.1)
    have h2 := h.lt b hb (hall b hb)
    rw [G.assoc _ _ _ ih.1 hx hb, ih.2 _ (G.cl _ _ hx hb), (hc b hb (hall b hb) i hi).2, ih.2 _ hx, hx1 i hi, K.assoc _ _ _ h1 (hT i hi) h2]⟩) (hgen a ha)
  exact key.2 b hb
theorem em3h (p q : Prop) : ¬ p ∨ (p ∧ q) ∨ (p ∧ ¬ q) := by
  by_cases hp : p
  · by_cases hq : q
    · exact .inr (.inl ⟨hp, hq⟩)
    · exact .inr (.inr ⟨hp, hq⟩)
  · exact .inl hp
theorem outs_lt {S : Nat → Bool} {b : Nat} (hb : b < n) (hS : S b = false) : outs n (upd1 S b) < outs n S := by
  have := outs_upd hb hS
  omega
end

section
variable {n e N d : Nat} {m M : List Int}

set_option maxHeartbeats 4000000 in
theorem rspread_yes (h : GT n m n e) (h' : GT N M N d) (F T : List Nat) (hFT : F.length = T.length) (hFl : F.length ≤ 1000000) (hF : ∀ i, i < F.length → F.getD i 0 < n) (hT : ∀ i, i < F.length → T.getD i 0 < N) (hgen : ∀ a, a < n → Gen n (op m n) e (fun x => decide (x ∈ F)) a) {φ : Nat → Nat} (hφ : Ext n (op m n) N (op M N) F T φ) : FnG Try.prog 32 [gp n m, gp N M, .list (il (nl F)), .list (il (nl T))] (.sl 0 0 (il (tbm n φ)).length) [.own (opl (il (tbm n φ)))] := by
  have G := h.2.2
  have GG := h'.2.2
  have Tb := h.2.1
  have Tb' := h'.2.1
  have hb := Tb.big
  have hb' := Tb'.big
  have hlF := nl_len F
  have hlT := nl_len T
  have hel := G.el
  have hde := GG.el
  have he1 := h.eI
  have he2 := h'.eI
  have hrz : (rgz n fun a => if a < 0 then (-1 : Int) else 0) = rgz n fun _ => 0 := rgz_congr fun a ha => by simp
  refine fng_of tab_ok Try.func32 rfl (by kernel_rfl) (by rw [Try.ntmps32]; exact Nat.le_add_left 4 _) ?_; rw [Try.ntmps32]
  refine qm ?_
  refine hk_region fun K hK => runs_eval tab_ok ?_
  simp only [ev0, evA, evB, evP, fl, gp, tab, simprocAttr, reduceCtorEq, reduceIte]
  refine fin_run ?_ (hK _ ?_) <;> clear hK <;> clear K
  · (first | exact trivial | omega | (simp only [In64] at *; omega) | (simp [In64] at *; omega) | (simp_all; done) | skip)
  refine qa (qm ?_)
  refine hk_region fun K hK => runs_eval tab_ok ?_
  simp only [ev0, evA, evB, evP, fl, gp, tab, simprocAttr, reduceCtorEq, reduceIte, makeSliceA.eq_def, rgz_new]
  refine fin_run ?_ (hK _ ?_) <;> clear hK <;> clear K
  · omega
  refine qa (qm (qm ?_))
  refine hk_region fun K hK => runs_eval tab_ok ?_
  simp only [ev0, evA, evB, evP, fl, gp, tab, simprocAttr, reduceCtorEq, reduceIte]
  refine fin_run trivial (hK _ ?_) <;> clear hK <;> clear K
  refine qa (ql ?_)
  refine hk_loop (ι := Nat) (fun i => ⟨87, [(2, .p (.list (il (nl F)))), (3, .p (.list (il (nl T)))), (4, .ptr 0 0), (5, .ptr 1 0), (9, .sl 2 0 n), (10, .p (.int .i64 i))], [.own [.p (.int .i64 n), .p (.list (il m))], .own [.p (.int .i64 N), .p (.list (il M))], .own (ol (rgz n fun a => if a < i then -1 else 0))]⟩) (fun i => i ≤ n) (fun i => n - i) 0 (Nat.zero_le _) [0, 1, 2] (by simp only [leq, leA, ev0, evA, evB, evP, fl, gp, tab, simprocAttr, reduceCtorEq, reduceIte] <;> first | trivial | exact ⟨rfl, rfl⟩ | (rw [hrz, List.take_of_length_le (by rw [rgz_len]; exact Nat.le_refl _)]; done) | (simp [rgz_len]; done) | trace_state) fun i hi => ?_
  have hr := rgz_len n (fun a => if a < i then -1 else 0)
  refine qm (qm ?_)
  refine hk_region fun K hK => runs_eval tab_ok ?_
  simp only [ev0, evA, evB, evP, fl, gp, tab, simprocAttr, reduceCtorEq, reduceIte]
  refine fin_run ?_ (hK _ ?_) <;> clear hK <;> clear K
  · (first | exact trivial | omega | (simp only [In64] at *; omega) | (simp [In64] at *; omega) | (simp_all; done) | skip)
  refine qa ?_
  refine hk_cond rfl (fun hC1 => ?_) (fun hC1 => ?_)
  · (try simp only [nhs] at hC1)
    have hlt : i < n := by omega
    have hse : (rgz n fun a => if a < i then -1 else 0).set i (-1) = rgz n fun a => if a < i + 1 then -1 else 0 := by
      rw [rgz_set]
      exact rgz_congr fun a ha => by
        by_cases e : a = i
        · simp [e]
        · by_cases e2 : a < i
          · simp [e, e2, show a < i + 1 by omega]
          · simp [e, e2, show ¬ a < i + 1 by omega]
    refine qh (qa (qm (ql ?_)))
    refine hk_region fun K hK => runs_eval tab_ok ?_
    simp only [ev0, evA, evB, evP, fl, gp, tab, simprocAttr, reduceCtorEq, reduceIte, ol_set, hse]
    refine fin_run ?_ (hK _ ?_) <;> clear hK <;> clear K
    · (first | exact trivial | omega | (simp only [In64] at *; omega) | (simp [In64] at *; omega) | (simp_all; done) | skip)
    refine qd (qa ?_)
    refine hk_region fun K hK => runs_eval tab_ok ?_
    simp only [ev0, evA, evB, evP, fl, gp, tab, simprocAttr, reduceCtorEq, reduceIte]
    refine fin_run ?_ (hK _ ?_) <;> clear hK <;> clear K
    · (first | exact trivial | omega | (simp only [In64] at *; omega) | (simp [In64] at *; omega) | (simp_all; done) | skip)
    refine qa ?_
    refine ⟨i + 1, [0, 1, 2], by omega, by omega, ?_⟩
    simp only [leq, leA, ev0, evA, evB, evP, fl, gp, tab, simprocAttr, reduceCtorEq, reduceIte] <;> first | trivial | omega | (simp [ol_length, rgz_len]; done)
  · (try simp only [nhs] at hC1)
    obtain rfl : i = n := by omega
    rw [rgz_neg]
    have hp0 := prow_len i (fun _ => false) (fun _ => 0)
    refine qj (qc (qc (qf (qa (qm ?_)))))
    refine hk_draw2 mixed fun K hK => runs2_eval tab_ok ?_
    simp only [evD, ev0, evA, evB, evP, fl, gp, tab, simprocAttr, reduceCtorEq, reduceIte, he1, he2, ol_set, prow_set (S := fun _ => false) (ψ := fun _ => 0) hel rfl]
    refine fin2_stop trivial (runs2_call (e_c Tb) rfl rfl rfl rfl (by simp only [dstOk, Nat.reduceLT]) (by repeat (first | exact trivial | constructor)) (runs2_eval tab_ok ?_))
    simp only [evD, ev0, evA, evB, evP, fl, gp, tab, simprocAttr, reduceCtorEq, reduceIte, he1, he2, ol_set, prow_set (S := fun _ => false) (ψ := fun _ => 0) hel rfl]
    refine fin2_stop trivial (runs2_call (e_c Tb') rfl rfl rfl rfl (by simp only [dstOk, Nat.reduceLT]) (by repeat (first | exact trivial | constructor)) (runs2_eval tab_ok ?_))
    simp only [evD, ev0, evA, evB, evP, fl, gp, tab, simprocAttr, reduceCtorEq, reduceIte, he1, he2, ol_set, prow_set (S := fun _ => false) (ψ := fun _ => 0) hel rfl]
    refine fin2_run ?_ (hK _ _ (by first | kernel_rfl | rfl) ?_) <;> clear hK <;> clear K
    · (first | exact trivial | omega | (simp only [In64] at *; omega) | (simp [In64] at *; omega) | (simp_all; done) | skip)
    refine qa (qm (qm ?_))
    refine hk_region fun K hK => runs_eval tab_ok ?_
    simp only [ev0, evA, evB, evP, fl, gp, tab, simprocAttr, reduceCtorEq, reduceIte]
    refine fin_run trivial (hK _ ?_) <;> clear hK <;> clear K
    refine qa (ql ?_)
    refine hk_loop (ι := (Nat → Bool) × (Nat → Nat) × Bool) (fun p => ⟨87, [(2, .p (.list (il (nl F)))), (3, .p (.list (il (nl T)))), (4, .ptr 0 0), (5, .ptr 1 0), (9, .sl 2 0 i), (11, .p (.bool p.2.2))], [.own [.p (.int .i64 i), .p (.list (il m))], .own [.p (.int .i64 N), .p (.list (il M))], .own (ol (prow i p.1 p.2.1))]⟩) (fun p => RSp i (op m i) e N (op M N) d F T p.1 p.2.1 ∧ (p.2.2 = false → ∀ a, a < i → RCl (op m i) (op M N) F T p.1 p.2.1 a F.length)) (fun p => 2 * outs i p.1 + p.2.2.toNat) (upd1 (fun _ => false) e, updF (fun _ => 0) e d, true) ⟨RSp.begin G GG, fun h => by cases h⟩ [0, 1, 2] (by simp only [leq, leA, ev0, evA, evB, evP, fl, gp, tab, simprocAttr, reduceCtorEq, reduceIte] <;> first | trivial | exact ⟨rfl, rfl⟩ | (simp [prow_len]; done) | trace_state) fun p hp => ?_
    obtain ⟨S0, ψ0, ag⟩ := p
    obtain ⟨hp, hag⟩ := hp
    simp only at hp hag
    refine qm (qm ?_)
    refine hk_region fun K hK => runs_eval tab_ok ?_
    simp only [ev0, evA, evB, evP, fl, gp, tab, simprocAttr, reduceCtorEq, reduceIte]
    refine fin_run trivial (hK _ ?_) <;> clear hK <;> clear K
    refine qa ?_
    refine hk_cond rfl (fun hC2 => ?_) (fun hC2 => ?_)
    · (try simp only [nhs] at hC2)
      subst hC2
      refine qh (qa (ql (qm ?_)))
      refine hk_region fun K hK => runs_eval tab_ok ?_
      simp only [ev0, evA, evB, evP, fl, gp, tab, simprocAttr, reduceCtorEq, reduceIte]
      refine fin_run trivial (hK _ ?_) <;> clear hK <;> clear K
      refine qa (qm ?_)
      refine hk_region fun K hK => runs_eval tab_ok ?_
      simp only [ev0, evA, evB, evP, fl, gp, tab, simprocAttr, reduceCtorEq, reduceIte]
      refine fin_run trivial (hK _ ?_) <;> clear hK <;> clear K
      refine qa (ql ?_)
      refine hk_loop (ι := Nat × (Nat → Bool) × (Nat → Nat) × Bool) (fun p => ⟨87, [(2, .p (.list (il (nl F)))), (3, .p (.list (il (nl T)))), (4, .ptr 0 0), (5, .ptr 1 0), (9, .sl 2 0 i), (11, .p (.bool p.2.2.2)), (12, .p (.int .i64 p.1))], [.own [.p (.int .i64 i), .p (.list (il m))], .own [.p (.int .i64 N), .p (.list (il M))], .own (ol (prow i p.2.1 p.2.2.1))]⟩) (fun p => p.1 ≤ i ∧ RSp i (op m i) e N (op M N) d F T p.2.1 p.2.2.1 ∧ outs i p.2.1 ≤ outs i S0 ∧ (p.2.2.2 = true → outs i p.2.1 < outs i S0) ∧ (p.2.2.2 = false → ∀ a, a < p.1 → RCl (op m i) (op M N) F T p.2.1 p.2.2.1 a F.length)) (fun p => i - p.1) (0, S0, ψ0, false) ⟨Nat.zero_le _, hp, Nat.le_refl _, fun h => (by cases h), fun _ a ha => absurd ha (Nat.not_lt_zero _)⟩ [0, 1, 2] (by simp only [leq, leA, ev0, evA, evB, evP, fl, gp, tab, simprocAttr, reduceCtorEq, reduceIte] <;> first | trivial | exact ⟨rfl, rfl⟩ | trace_state) fun p hp3 => ?_
      obtain ⟨a, S1, ψ1, ag1⟩ := p
      obtain ⟨q1, q2, q3, q4, q5⟩ := hp3
      simp only at q1 q2 q3 q4 q5
      refine qm (qm ?_)
      refine hk_region fun K hK => runs_eval tab_ok ?_
      simp only [ev0, evA, evB, evP, fl, gp, tab, simprocAttr, reduceCtorEq, reduceIte]
      refine fin_run ?_ (hK _ ?_) <;> clear hK <;> clear K
      · (first | exact trivial | omega | (simp only [In64] at *; omega) | (simp [In64] at *; omega) | (simp_all; done) | skip)
      refine qa ?_
      refine hk_cond rfl (fun hC3 => ?_) (fun hC3 => ?_)
      · (try simp only [nhs] at hC3)
        have hal : a < i := by omega
        refine qh (qa (qm (ql (qm ?_))))
        refine hk_region fun K hK => runs_eval tab_ok ?_
        simp only [ev0, evA, evB, evP, fl, gp, tab, simprocAttr, reduceCtorEq, reduceIte]
        refine fin_run trivial (hK _ ?_) <;> clear hK <;> clear K
        refine qa (ql ?_)
        refine hk_loop (ι := Nat × (Nat → Bool) × (Nat → Nat) × Bool) (fun p => ⟨87, [(2, .p (.list (il (nl F)))), (3, .p (.list (il (nl T)))), (4, .ptr 0 0), (5, .ptr 1 0), (9, .sl 2 0 i), (11, .p (.bool p.2.2.2)), (12, .p (.int .i64 a)), (13, .p (.int .i64 p.1))], [.own [.p (.int .i64 i), .p (.list (il m))], .own [.p (.int .i64 N), .p (.list (il M))], .own (ol (prow i p.2.1 p.2.2.1))]⟩) (fun p => p.1 ≤ F.length ∧ RSp i (op m i) e N (op M N) d F T p.2.1 p.2.2.1 ∧ outs i p.2.1 ≤ outs i S0 ∧ (p.2.2.2 = true → outs i p.2.1 < outs i S0) ∧ (p.2.2.2 = false → (∀ b, b < a → RCl (op m i) (op M N) F T p.2.1 p.2.2.1 b F.length) ∧ RCl (op m i) (op M N) F T p.2.1 p.2.2.1 a p.1)) (fun p => F.length - p.1) (0, S1, ψ1, ag1) ⟨Nat.zero_le _, q2, q3, q4, fun h => ⟨q5 h, fun _ j hj => absurd hj (Nat.not_lt_zero _)⟩⟩ [0, 1, 2] (by simp only [leq, leA, ev0, evA, evB, evP, fl, gp, tab, simprocAttr, reduceCtorEq, reduceIte] <;> first | trivial | exact ⟨rfl, rfl⟩ | trace_state) fun p hp4 => ?_
        obtain ⟨j, S, ψ, ag2⟩ := p
        obtain ⟨r1, r2, r3, r4, r5⟩ := hp4
        simp only at r1 r2 r3 r4 r5
        have hpl := prow_len i S ψ
        have pa := prow_get (S := S) (ψ := ψ) hal
        refine qm (qm ?_)
        rcases em3h (j < F.length) (S a = true) with k1 | ⟨k1, k2⟩ | ⟨k1, k2⟩
        · refine hk_region fun K hK => runs_eval tab_ok ?_
          simp only [ev0, evA, evB, evP, fl, gp, tab, simprocAttr, reduceCtorEq, reduceIte, il_length, decide_eq_false (show ¬ ((j : Nat) : Int) < ((nl F).length : Nat) by omega)]
          refine fin_run trivial (hK _ ?_) <;> clear hK <;> clear K
          refine qa ?_
          refine hk_cond rfl (fun hC4 => ?_) (fun hC4 => ?_)
          · cases hC4
          · refine qj (qc (qc (qf (qd (qa ?_)))))
            refine hk_region fun K hK => runs_eval tab_ok ?_
            simp only [ev0, evA, evB, evP, fl, gp, tab, simprocAttr, reduceCtorEq, reduceIte]
            refine fin_run ?_ (hK _ ?_) <;> clear hK <;> clear K
            · (first | exact trivial | omega | (simp only [In64] at *; omega) | (simp [In64] at *; omega) | (simp_all; done) | skip)
            refine qa ?_
            refine ⟨(a + 1, S, ψ, ag2), [0, 1, 2], ⟨by simp only; omega, r2, r3, r4, fun h b hb2 => ?_⟩, by simp only; omega, ?_⟩
            · by_cases hba : b = a
              · rw [hba, show F.length = j by omega]; exact (r5 h).2
              · exact (r5 h).1 b (by simp only at hb2; omega)
            · simp only [leq, leA, ev0, evA, evB, evP, fl, gp, tab, simprocAttr, reduceCtorEq, reduceIte] <;> first | trivial | omega
        · rw [k2, if_pos rfl] at pa
          refine hk_region fun K hK => runs_eval tab_ok ?_
          simp only [ev0, evA, evB, evP, fl, gp, tab, simprocAttr, reduceCtorEq, reduceIte, il_length, decide_eq_true (show ((j : Nat) : Int) < ((nl F).length : Nat) by omega), ol_get (show a < (prow i S ψ).length by omega), pa]
          refine fin_run ?_ (hK _ ?_) <;> clear hK <;> clear K
          · (first | exact trivial | omega | (simp only [In64] at *; omega) | (simp [In64] at *; omega) | (simp_all; done) | skip)
          refine qa ?_
          refine hk_cond rfl (fun hC4 => ?_) (fun hC4 => ?_)
          · (try simp only [nhs] at hC4)
            have hjl := k1
            have hFj := hF j hjl
            have hTj := hT j hjl
            have hψa := r2.lt a hal k2
            have hbl := G.cl _ _ hFj hal
            have pb := prow_get (S := S) (ψ := ψ) hbl
            refine qh (qa (qm (ql (qm ?_))))
            refine hk_draw mixed (by kernel_rfl) fun K hK => runs_eval tab_ok ?_
            simp only [ev0, evA, evB, evP, fl, gp, tab, simprocAttr, reduceCtorEq, reduceIte, il_get (show j < (nl F).length by omega), nl_get hjl]
            refine fin_stop ?_ (runs_call (m_c Tb hFj hal) rfl rfl rfl (by simp only [dstOk, Nat.reduceLT]) (by repeat (first | exact trivial | constructor)) (runs_eval tab_ok ?_))
            · exact ⟨by omega, by omega⟩
            simp only [ev0, evA, evB, evP, fl, gp, tab, simprocAttr, reduceCtorEq, reduceIte, il_get (show j < (nl F).length by omega), nl_get hjl]
            refine fin_run ?_ (hK _ ?_) <;> clear hK <;> clear K
            · (first | exact trivial | omega | (simp only [In64] at *; omega) | (simp [In64] at *; omega) | (simp_all; done) | skip)
            refine qa (qm ?_)
            refine hk_draw mixed (by kernel_rfl) fun K hK => runs_eval tab_ok ?_
            simp only [ev0, evA, evB, evP, fl, gp, tab, simprocAttr, reduceCtorEq, reduceIte, il_get (show j < (nl T).length by omega), nl_get (show j < T.length by omega), ol_get (show a < (prow i S ψ).length by omega), pa]
            refine fin_stop ?_ (runs_call (m_c Tb' hTj hψa) rfl rfl rfl (by simp only [dstOk, Nat.reduceLT]) (by repeat (first | exact trivial | constructor)) (runs_eval tab_ok ?_))
            · exact ⟨⟨⟨by omega, by omega⟩, by omega, by omega⟩, by omega⟩
            simp only [ev0, evA, evB, evP, fl, gp, tab, simprocAttr, reduceCtorEq, reduceIte, il_get (show j < (nl T).length by omega), nl_get (show j < T.length by omega), ol_get (show a < (prow i S ψ).length by omega), pa]
            refine fin_run ?_ (hK _ ?_) <;> clear hK <;> clear K
            · (first | exact trivial | omega | (simp only [In64] at *; omega) | (simp [In64] at *; omega) | (simp_all; done) | skip)
            refine qa (qm ?_)
            rcases Bool.eq_false_or_eq_true (S (op m i (F.getD j 0) a)) with hSb | hSb <;> simp only [hSb, if_true, if_false, Bool.false_eq_true] at pb
            · refine hk_region fun K hK => runs_eval tab_ok ?_
              simp only [ev0, evA, evB, evP, fl, gp, tab, simprocAttr, reduceCtorEq, reduceIte, ol_get (show op m i (F.getD j 0) a < (prow i S ψ).length by omega), pb]
              refine fin_run ?_ (hK _ ?_) <;> clear hK <;> clear K
              · (first | exact trivial | omega | (simp only [In64] at *; omega) | (simp [In64] at *; omega) | (simp_all; done) | skip)
              refine qa ?_
              refine hk_cond rfl (fun hC5 => ?_) (fun hC5 => ?_)
              · (try simp only [nhs] at hC5)
                simp at hC5
                omega
              · (try simp only [nhs] at hC5)
                refine qm ?_
                refine hk_region fun K hK => runs_eval tab_ok ?_
                simp only [ev0, evA, evB, evP, fl, gp, tab, simprocAttr, reduceCtorEq, reduceIte, ol_get (show op m i (F.getD j 0) a < (prow i S ψ).length by omega), pb]
                refine fin_run ?_ (hK _ ?_) <;> clear hK <;> clear K
                · (first | exact trivial | omega | (simp only [In64] at *; omega) | (simp [In64] at *; omega) | (simp_all; done) | skip)
                refine qa ?_
                refine hk_cond rfl (fun hC6 => ?_) (fun hC6 => ?_)
                · (try simp only [nhs] at hC6)
                  have h1 := r2.val G hF hφ hal k2 hjl
                  have h2 := r2.ref φ hφ _ hbl hSb
                  omega
                · (try simp only [nhs] at hC6)
                  have hv : ψ (op m i (F.getD j 0) a) = op M N (T.getD j 0) (ψ a) := by omega
                  refine qh (qd (qa ?_))
                  refine hk_region fun K hK => runs_eval tab_ok ?_
                  simp only [ev0, evA, evB, evP, fl, gp, tab, simprocAttr, reduceCtorEq, reduceIte]
                  refine fin_run ?_ (hK _ ?_) <;> clear hK <;> clear K
                  · (first | exact trivial | omega | (simp only [In64] at *; omega) | (simp [In64] at *; omega) | (simp_all; done) | skip)
                  refine qa ?_
                  refine ⟨(j + 1, S, ψ, ag2), [0, 1, 2], ⟨by simp only; omega, r2, r3, r4, fun h => ⟨(r5 h).1, fun _ y hy => ?_⟩⟩, by simp only; omega, ?_⟩
                  · by_cases hyj : y = j
                    · rw [hyj]; exact ⟨hSb, hv⟩
                    · exact (r5 h).2 k2 y (by omega)
                  · simp only [leq, leA, ev0, evA, evB, evP, fl, gp, tab, simprocAttr, reduceCtorEq, reduceIte] <;> first | trivial | omega
            · refine hk_region fun K hK => runs_eval tab_ok ?_
              simp only [ev0, evA, evB, evP, fl, gp, tab, simprocAttr, reduceCtorEq, reduceIte, ol_get (show op m i (F.getD j 0) a < (prow i S ψ).length by omega), pb]
              refine fin_run ?_ (hK _ ?_) <;> clear hK <;> clear K
              · (first | exact trivial | omega | (simp only [In64] at *; omega) | (simp [In64] at *; omega) | (simp_all; done) | skip)
              refine qa ?_
              refine hk_cond rfl (fun hC5 => ?_) (fun hC5 => ?_)
              · (try simp only [nhs] at hC5)
                refine qm ?_
                refine hk_region fun K hK => runs_eval tab_ok ?_
                simp only [ev0, evA, evB, evP, fl, gp, tab, simprocAttr, reduceCtorEq, reduceIte, ol_set, prow_set hbl hSb]
                refine fin_run ?_ (hK _ ?_) <;> clear hK <;> clear K
                · (first | exact trivial | omega | (simp only [In64] at *; omega) | (simp [In64] at *; omega) | (simp_all; done) | skip)
                refine qa ?_
                refine hk_region fun K hK => runs_eval tab_ok ?_
                simp only [ev0, evA, evB, evP, fl, gp, tab, simprocAttr, reduceCtorEq, reduceIte]
                refine fin_run trivial (hK _ ?_) <;> clear hK <;> clear K
                refine qd (qa ?_)
                refine hk_region fun K hK => runs_eval tab_ok ?_
                simp only [ev0, evA, evB, evP, fl, gp, tab, simprocAttr, reduceCtorEq, reduceIte]
                refine fin_run ?_ (hK _ ?_) <;> clear hK <;> clear K
                · (first | exact trivial | omega | (simp only [In64] at *; omega) | (simp [In64] at *; omega) | (simp_all; done) | skip)
                refine qa ?_
                have ho := outs_lt hbl hSb
                refine ⟨(j + 1, upd1 S (op m i (F.getD j 0) a), updF ψ (op m i (F.getD j 0) a) (op M N (T.getD j 0) (ψ a)), true), [0, 1, 2], ⟨by simp only; omega, r2.push G GG hF hT hal k2 hjl hSb, by simp only; omega, fun _ => by simp only; omega, fun h => by cases h⟩, by simp only; omega, ?_⟩
                simp only [leq, leA, ev0, evA, evB, evP, fl, gp, tab, simprocAttr, reduceCtorEq, reduceIte] <;> first | trivial | omega | (simp [prow_len]; done) | trace_state
              · (try simp only [nhs] at hC5)
                simp at hC5
          · (try simp only [nhs] at hC4)
            first | omega | (simp at hC4; done) | (simp at hC4; omega)
        · rw [if_neg k2] at pa
          refine hk_region fun K hK => runs_eval tab_ok ?_
          simp only [ev0, evA, evB, evP, fl, gp, tab, simprocAttr, reduceCtorEq, reduceIte, il_length, decide_eq_true (show ((j : Nat) : Int) < ((nl F).length : Nat) by omega), ol_get (show a < (prow i S ψ).length by omega), pa]
          refine fin_run ?_ (hK _ ?_) <;> clear hK <;> clear K
          · (first | exact trivial | omega | (simp only [In64] at *; omega) | (simp [In64] at *; omega) | (simp_all; done) | skip)
          refine qa ?_
          refine hk_cond rfl (fun hC4 => ?_) (fun hC4 => ?_)
          · (try simp only [nhs] at hC4)
            first | omega | (simp at hC4; done) | (simp at hC4; omega)
          · (try simp only [nhs] at hC4)
            refine qj (qc (qc (qf (qd (qa ?_)))))
            refine hk_region fun K hK => runs_eval tab_ok ?_
            simp only [ev0, evA, evB, evP, fl, gp, tab, simprocAttr, reduceCtorEq, reduceIte]
            refine fin_run ?_ (hK _ ?_) <;> clear hK <;> clear K
            · (first | exact trivial | omega | (simp only [In64] at *; omega) | (simp [In64] at *; omega) | (simp_all; done) | skip)
            refine qa ?_
            refine ⟨(a + 1, S, ψ, ag2), [0, 1, 2], ⟨by simp only; omega, r2, r3, r4, fun h b hb2 => ?_⟩, by simp only; omega, ?_⟩
            · by_cases hba : b = a
              · rw [hba]; exact fun hh => absurd hh k2
              · exact (r5 h).1 b (by simp only at hb2; omega)
            · simp only [leq, leA, ev0, evA, evB, evP, fl, gp, tab, simprocAttr, reduceCtorEq, reduceIte] <;> first | trivial | omega
      · (try simp only [nhs] at hC3)
        obtain rfl : a = i := by omega
        refine qj (qc (qc (qf (qd (qa ?_)))))
        refine ⟨(S1, ψ1, ag1), [0, 1, 2], ⟨q2, fun h => q5 h⟩, ?_, ?_⟩
        · cases ag1 with
          | false => simp only [Bool.toNat_false, Bool.toNat_true]; omega
          | true => have := q4 rfl; simp only [Bool.toNat_true]; omega
        · simp only [leq, leA, ev0, evA, evB, evP, fl, gp, tab, simprocAttr, reduceCtorEq, reduceIte] <;> first | trivial | omega
    · (try simp only [nhs] at hC2)
      subst hC2
      obtain ⟨hall, hext⟩ := hp.fin G GG hF hT hgen (hag rfl)
      rw [prow_all fun a ha => ⟨hall a ha, hp.ref φ hφ a ha (hall a ha)⟩]
      refine qj (qc (qc (qf (qa (qm ?_)))))
      refine hk_region fun K hK => runs_eval tab_ok ?_
      simp only [ev0, evA, evB, evP, fl, gp, tab, simprocAttr, reduceCtorEq, reduceIte]
      refine fin_run trivial (hK _ ?_) <;> clear hK <;> clear K
      refine qa (qk ?_)
      simp only [Try.results32, PostG, endG, rvsA, rvA, mkTup, ev0, evA, evB, evP, fl, gp, tab, simprocAttr, reduceCtorEq, reduceIte]
      have htl := tbm_len i φ
      exact ⟨[2], by simp only [il_length, htl]; rfl, rfl, by simp only [leq, leA, ev0, evA, evB, evP, fl, gp, tab, simprocAttr, reduceCtorEq, reduceIte] <;> first | trivial | exact ⟨rfl, rfl⟩ | (refine ⟨?_, opl_sc _ _⟩; rw [List.take_of_length_le (by rw [htl])]; rfl) | trace_state⟩

set_option maxHeartbeats 4000000 in
theorem rspread_no (h : GT n m n e) (h' : GT N M N d) (F T : List Nat) (hFT : F.length = T.length) (hFl : F.length ≤ 1000000) (hF : ∀ i, i < F.length → F.getD i 0 < n) (hT : ∀ i, i < F.length → T.getD i 0 < N) (hgen : ∀ a, a < n → Gen n (op m n) e (fun x => decide (x ∈ F)) a) (hφ : ∀ φ, ¬ Ext n (op m n) N (op M N) F T φ) : FnG Try.prog 32 [gp n m, gp N M, .list (il (nl F)), .list (il (nl T))] (.p .nil) [] := by
  have G := h.2.2
  have GG := h'.2.2
  have Tb := h.2.1
  have Tb' := h'.2.1
  have hb := Tb.big
  have hb' := Tb'.big
  have hlF := nl_len F
  have hlT := nl_len T
  have hel := G.el
  have hde := GG.el
  have he1 := h.eI
  have he2 := h'.eI
  have hrz : (rgz n fun a => if a < 0 then (-1 : Int) else 0) = rgz n fun _ => 0 := rgz_congr fun a ha => by simp
  refine fng_of tab_ok Try.func32 rfl (by kernel_rfl) (by rw [Try.ntmps32]; exact Nat.le_add_left 4 _) ?_; rw [Try.ntmps32]
  refine qm ?_
  refine hk_region fun K hK => runs_eval tab_ok ?_
  simp only [ev0, evA, evB, evP, fl, gp, tab, simprocAttr, reduceCtorEq, reduceIte]
  refine fin_run ?_ (hK _ ?_) <;> clear hK <;> clear K
  · (first | exact trivial | omega | (simp only [In64] at *; omega) | (simp [In64] at *; omega) | (simp_all; done) | skip)
  refine qa (qm ?_)
  refine hk_region fun K hK => runs_eval tab_ok ?_
  simp only [ev0, evA, evB, evP, fl, gp, tab, simprocAttr, reduceCtorEq, reduceIte, makeSliceA.eq_def, rgz_new]
  refine fin_run ?_ (hK _ ?_) <;> clear hK <;> clear K
  · omega
  refine qa (qm (qm ?_))
  refine hk_region fun K hK => runs_eval tab_ok ?_
  simp only [ev0, evA, evB, evP, fl, gp, tab, simprocAttr, reduceCtorEq, reduceIte]
  refine fin_run trivial (hK _ ?_) <;> clear hK <;> clear K
  refine qa (ql ?_)
  refine hk_loop (ι := Nat) (fun i => ⟨87, [(2, .p (.list (il (nl F)))), (3, .p (.list (il (nl T)))), (4, .ptr 0 0), (5, .ptr 1 0), (9, .sl 2 0 n), (10, .p (.int .i64 i))], [.own [.p (.int .i64 n), .p (.list (il m))], .own [.p (.int .i64 N), .p (.list (il M))], .own (ol (rgz n fun a => if a < i then -1 else 0))]⟩) (fun i => i ≤ n) (fun i => n - i) 0 (Nat.zero_le _) [0, 1, 2] (by simp only [leq, leA, ev0, evA, evB, evP, fl, gp, tab, simprocAttr, reduceCtorEq, reduceIte] <;> first | trivial | exact ⟨rfl, rfl⟩ | (rw [hrz, List.take_of_length_le (by rw [rgz_len]; exact Nat.le_refl _)]; done) | (simp [rgz_len]; done) | trace_state) fun i hi => ?_
  have hr := rgz_len n (fun a => if a < i then -1 else 0)
  refine qm (qm ?_)
  refine hk_region fun K hK => runs_eval tab_ok ?_
  simp only [ev0, evA, evB, evP, fl, gp, tab, simprocAttr, reduceCtorEq, reduceIte]
  refine fin_run ?_ (hK _ ?_) <;> clear hK <;> clear K
  · (first | exact trivial | omega | (simp only [In64] at *; omega) | (simp [In64] at *; omega) | (simp_all; done) | skip)
  refine qa ?_
  refine hk_cond rfl (fun hC1 => ?_) (fun hC1 => ?_)
  · (try simp only [nhs] at hC1)
    have hlt : i < n := by omega
    have hse : (rgz n fun a => if a < i then -1 else 0).set i (-1) = rgz n fun a => if a < i + 1 then -1 else 0 := by
      rw [rgz_set]
      exact rgz_congr fun a ha => by
        by_cases e : a = i
        · simp [e]
        · by_cases e2 : a < i
          · simp [e, e2, show a < i + 1 by omega]
          · simp [e, e2, show ¬ a < i + 1 by omega]
    refine qh (qa (qm (ql ?_)))
    refine hk_region fun K hK => runs_eval tab_ok ?_
    simp only [ev0, evA, evB, evP, fl, gp, tab, simprocAttr, reduceCtorEq, reduceIte, ol_set, hse]
    refine fin_run ?_ (hK _ ?_) <;> clear hK <;> clear K
    · (first | exact trivial | omega | (simp only [In64] at *; omega) | (simp [In64] at *; omega) | (simp_all; done) | skip)
    refine qd (qa ?_)
    refine hk_region fun K hK => runs_eval tab_ok ?_
    simp only [ev0, evA, evB, evP, fl, gp, tab, simprocAttr, reduceCtorEq, reduceIte]
    refine fin_run ?_ (hK _ ?_) <;> clear hK <;> clear K
    · (first | exact trivial | omega | (simp only [In64] at *; omega) | (simp [In64] at *; omega) | (simp_all; done) | skip)
    refine qa ?_
    refine ⟨i + 1, [0, 1, 2], by omega, by omega, ?_⟩
    simp only [leq, leA, ev0, evA, evB, evP, fl, gp, tab, simprocAttr, reduceCtorEq, reduceIte] <;> first | trivial | omega | (simp [ol_length, rgz_len]; done)
  · (try simp only [nhs] at hC1)
    obtain rfl : i = n := by omega
    rw [rgz_neg]
    have hp0 := prow_len i (fun _ => false) (fun _ => 0)
    refine qj (qc (qc (qf (qa (qm ?_)))))
    refine hk_draw2 mixed fun K hK => runs2_eval tab_ok ?_
    simp only [evD, ev0, evA, evB, evP, fl, gp, tab, simprocAttr, reduceCtorEq, reduceIte, he1, he2, ol_set, prow_set (S := fun _ => false) (ψ := fun _ => 0) hel rfl]
    refine fin2_stop trivial (runs2_call (e_c Tb) rfl rfl rfl rfl (by simp only [dstOk, Nat.reduceLT]) (by repeat (first | exact trivial | constructor)) (runs2_eval tab_ok ?_))
    simp only [evD, ev0, evA, evB, evP, fl, gp, tab, simprocAttr, reduceCtorEq, reduceIte, he1, he2, ol_set, prow_set (S := fun _ => false) (ψ := fun _ => 0) hel rfl]
    refine fin2_stop trivial (runs2_call (e_c Tb') rfl rfl rfl rfl (by simp only [dstOk, Nat.reduceLT]) (by repeat (first | exact trivial | constructor)) (runs2_eval tab_ok ?_))
    simp only [evD, ev0, evA, evB, evP, fl, gp, tab, simprocAttr, reduceCtorEq, reduceIte, he1, he2, ol_set, prow_set (S := fun _ => false) (ψ := fun _ => 0) hel rfl]
    refine fin2_run ?_ (hK _ _ (by first | kernel_rfl | rfl) ?_) <;> clear hK <;> clear K
    · (first | exact trivial | omega | (simp only [In64] at *; omega) | (simp [In64] at *; omega) | (simp_all; done) | skip)
    refine qa (qm (qm ?_))
    refine hk_region fun K hK => runs_eval tab_ok ?_
    simp only [ev0, evA, evB, evP, fl, gp, tab, simprocAttr, reduceCtorEq, reduceIte]
    refine fin_run trivial (hK _ ?_) <;> clear hK <;> clear K
    refine qa (ql ?_)
    refine hk_loop (ι := (Nat → Bool) × (Nat → Nat) × Bool) (fun p => ⟨87, [(2, .p (.list (il (nl F)))), (3, .p (.list (il (nl T)))), (4, .ptr 0 0), (5, .ptr 1 0), (9, .sl 2 0 i), (11, .p (.bool p.2.2))], [.own [.p (.int .i64 i), .p (.list (il m))], .own [.p (.int .i64 N), .p (.list (il M))], .own (ol (prow i p.1 p.2.1))]⟩) (fun p => RSp i (op m i) e N (op M N) d F T p.1 p.2.1 ∧ (p.2.2 = false → ∀ a, a < i → RCl (op m i) (op M N) F T p.1 p.2.1 a F.length)) (fun p => 2 * outs i p.1 + p.2.2.toNat) (upd1 (fun _ => false) e, updF (fun _ => 0) e d, true) ⟨RSp.begin G GG, fun h => by cases h⟩ [0, 1, 2] (by simp only [leq, leA, ev0, evA, evB, evP, fl, gp, tab, simprocAttr, reduceCtorEq, reduceIte] <;> first | trivial | exact ⟨rfl, rfl⟩ | (simp [prow_len]; done) | trace_state) fun p hp => ?_
    obtain ⟨S0, ψ0, ag⟩ := p
    obtain ⟨hp, hag⟩ := hp
    simp only at hp hag
    refine qm (qm ?_)
    refine hk_region fun K hK => runs_eval tab_ok ?_
    simp only [ev0, evA, evB, evP, fl, gp, tab, simprocAttr, reduceCtorEq, reduceIte]
    refine fin_run trivial (hK _ ?_) <;> clear hK <;> clear K
    refine qa ?_
    refine hk_cond rfl (fun hC2 => ?_) (fun hC2 => ?_)
    · (try simp only [nhs] at hC2)
      subst hC2
      refine qh (qa (ql (qm ?_)))
      refine hk_region fun K hK => runs_eval tab_ok ?_
      simp only [ev0, evA, evB, evP, fl, gp, tab, simprocAttr, reduceCtorEq, reduceIte]
      refine fin_run trivial (hK _ ?_) <;> clear hK <;> clear K
      refine qa (qm ?_)
      refine hk_region fun K hK => runs_eval tab_ok ?_
      simp only [ev0, evA, evB, evP, fl, gp, tab, simprocAttr, reduceCtorEq, reduceIte]
      refine fin_run trivial (hK _ ?_) <;> clear hK <;> clear K
      refine qa (ql ?_)
      refine hk_loop (ι := Nat × (Nat → Bool) × (Nat → Nat) × Bool) (fun p => ⟨87, [(2, .p (.list (il (nl F)))), (3, .p (.list (il (nl T)))), (4, .ptr 0 0), (5, .ptr 1 0), (9, .sl 2 0 i), (11, .p (.bool p.2.2.2)), (12, .p (.int .i64 p.1))], [.own [.p (.int .i64 i), .p (.list (il m))], .own [.p (.int .i64 N), .p (.list (il M))], .own (ol (prow i p.2.1 p.2.2.1))]⟩) (fun p => p.1 ≤ i ∧ RSp i (op m i) e N (op M N) d F T p.2.1 p.2.2.1 ∧ outs i p.2.1 ≤ outs i S0 ∧ (p.2.2.2 = true → outs i p.2.1 < outs i S0) ∧ (p.2.2.2 = false → ∀ a, a < p.1 → RCl (op m i) (op M N) F T p.2.1 p.2.2.1 a F.length)) (fun p => i - p.1) (0, S0, ψ0, false) ⟨Nat.zero_le _, hp, Nat.le_refl _, fun h => (by cases h), fun _ a ha => absurd ha (Nat.not_lt_zero _)⟩ [0, 1, 2] (by simp only [leq, leA, ev0, evA, evB, evP, fl, gp, tab, simprocAttr, reduceCtorEq, reduceIte] <;> first | trivial | exact ⟨rfl, rfl⟩ | trace_state) fun p hp3 => ?_
      obtain ⟨a, S1, ψ1, ag1⟩ := p
      obtain ⟨q1, q2, q3, q4, q5⟩ := hp3
      simp only at q1 q2 q3 q4 q5
      refine qm (qm ?_)
      refine hk_region fun K hK => runs_eval tab_ok ?_
      simp only [ev0, evA, evB, evP, fl, gp, tab, simprocAttr, reduceCtorEq, reduceIte]
      refine fin_run ?_ (hK _ ?_) <;> clear hK <;> clear K
      · (first | exact trivial | omega | (simp only [In64] at *; omega) | (simp [In64] at *; omega) | (simp_all; done) | skip)
      refine qa ?_
      refine hk_cond rfl (fun hC3 => ?_) (fun hC3 => ?_)
      · (try simp only [nhs] at hC3)
        have hal : a < i := by omega
        refine qh (qa (qm (ql (qm ?_))))
        refine hk_region fun K hK => runs_eval tab_ok ?_
        simp only [ev0, evA, evB, evP, fl, gp, tab, simprocAttr, reduceCtorEq, reduceIte]
        refine fin_run trivial (hK _ ?_) <;> clear hK <;> clear K
        refine qa (ql ?_)
        refine hk_loop (ι := Nat × (Nat → Bool) × (Nat → Nat) × Bool) (fun p => ⟨87, [(2, .p (.list (il (nl F)))), (3, .p (.list (il (nl T)))), (4, .ptr 0 0), (5, .ptr 1 0), (9, .sl 2 0 i), (11, .p (.bool p.2.2.2)), (12, .p (.int .i64 a)), (13, .p (.int .i64 p.1))], [.own [.p (.int .i64 i), .p (.list (il m))], .own [.p (.int .i64 N), .p (.list (il M))], .own (ol (prow i p.2.1 p.2.2.1))]⟩) (fun p => p.1 ≤ F.length ∧ RSp i (op m i) e N (op M N) d F T p.2.1 p.2.2.1 ∧ outs i p.2.1 ≤ outs i S0 ∧ (p.2.2.2 = true → outs i p.2.1 < outs i S0) ∧ (p.2.2.2 = false → (∀ b, b < a → RCl (op m i) (op M N) F T p.2.1 p.2.2.1 b F.length) ∧ RCl (op m i) (op M N) F T p.2.1 p.2.2.1 a p.1)) (fun p => F.length - p.1) (0, S1, ψ1, ag1) ⟨Nat.zero_le _, q2, q3, q4, fun h => ⟨q5 h, fun _ j hj => absurd hj (Nat.not_lt_zero _)⟩⟩ [0, 1, 2] (by simp only [leq, leA, ev0, evA, evB, evP, fl, gp, tab, simprocAttr, reduceCtorEq, reduceIte] <;> first | trivial | exact ⟨rfl, rfl⟩ | trace_state) fun p hp4 => ?_
        obtain ⟨j, S, ψ, ag2⟩ := p
        obtain ⟨r1, r2, r3, r4, r5⟩ := hp4
        simp only at r1 r2 r3 r4 r5
        have hpl := prow_len i S ψ
        have pa := prow_get (S := S) (ψ := ψ) hal
        refine qm (qm ?_)
        rcases em3h (j < F.length) (S a = true) with k1 | ⟨k1, k2⟩ | ⟨k1, k2⟩
        · refine hk_region fun K hK => runs_eval tab_ok ?_
          simp only [ev0, evA, evB, evP, fl, gp, tab, simprocAttr, reduceCtorEq, reduceIte, il_length, decide_eq_false (show ¬ ((j : Nat) : Int) < ((nl F).length : Nat) by omega)]
          refine fin_run trivial (hK _ ?_) <;> clear hK <;> clear K
          refine qa ?_
          refine hk_cond rfl (fun hC4 => ?_) (fun hC4 => ?_)
          · cases hC4
          · refine qj (qc (qc (qf (qd (qa ?_)))))
            refine hk_region fun K hK => runs_eval tab_ok ?_
            simp only [ev0, evA, evB, evP, fl, gp, tab, simprocAttr, reduceCtorEq, reduceIte]
            refine fin_run ?_ (hK _ ?_) <;> clear hK <;> clear K
            · (first | exact trivial | omega | (simp only [In64] at *; omega) | (simp [In64] at *; omega) | (simp_all; done) | skip)
            refine qa ?_
            refine ⟨(a + 1, S, ψ, ag2), [0, 1, 2], ⟨by simp only; omega, r2, r3, r4, fun h b hb2 => ?_⟩, by simp only; omega, ?_⟩
            · by_cases hba : b = a
              · rw [hba, show F.length = j by omega]; exact (r5 h).2
              · exact (r5 h).1 b (by simp only at hb2; omega)
            · simp only [leq, leA, ev0, evA, evB, evP, fl, gp, tab, simprocAttr, reduceCtorEq, reduceIte] <;> first | trivial | omega
        · rw [k2, if_pos rfl] at pa
          refine hk_region fun K hK => runs_eval tab_ok ?_
          simp only [ev0, evA, evB, evP, fl, gp, tab, simprocAttr, reduceCtorEq, reduceIte, il_length, decide_eq_true (show ((j : Nat) : Int) < ((nl F).length : Nat) by omega), ol_get (show a < (prow i S ψ).length by omega), pa]
          refine fin_run ?_ (hK _ ?_) <;> clear hK <;> clear K
          · (first | exact trivial | omega | (simp only [In64] at *; omega) | (simp [In64] at *; omega) | (simp_all; done) | skip)
          refine qa ?_
          refine hk_cond rfl (fun hC4 => ?_) (fun hC4 => ?_)
          · (try simp only [nhs] at hC4)
            have hjl := k1
            have hFj := hF j hjl
            have hTj := hT j hjl
            have hψa := r2.lt a hal k2
            have hbl := G.cl _ _ hFj hal
            have pb := prow_get (S := S) (ψ := ψ) hbl
            refine qh (qa (qm (ql (qm ?_))))
            refine hk_draw mixed (by kernel_rfl) fun K hK => runs_eval tab_ok ?_
            simp only [ev0, evA, evB, evP, fl, gp, tab, simprocAttr, reduceCtorEq, reduceIte, il_get (show j < (nl F).length by omega), nl_get hjl]
            refine fin_stop ?_ (runs_call (m_c Tb hFj hal) rfl rfl rfl (by simp only [dstOk, Nat.reduceLT]) (by repeat (first | exact trivial | constructor)) (runs_eval tab_ok ?_))
            · exact ⟨by omega, by omega⟩
            simp only [ev0, evA, evB, evP, fl, gp, tab, simprocAttr, reduceCtorEq, reduceIte, il_get (show j < (nl F).length by omega), nl_get hjl]
            refine fin_run ?_ (hK _ ?_) <;> clear hK <;> clear K
            · (first | exact trivial | omega | (simp only [In64] at *; omega) | (simp [In64] at *; omega) | (simp_all; done) | skip)
            refine qa (qm ?_)
            refine hk_draw mixed (by kernel_rfl) fun K hK => runs_eval tab_ok ?_
            simp only [ev0, evA, evB, evP, fl, gp, tab, simprocAttr, reduceCtorEq, reduceIte, il_get (show j < (nl T).length by omega), nl_get (show j < T.length by omega), ol_get (show a < (prow i S ψ).length by omega), pa]
            refine fin_stop ?_ (runs_call (m_c Tb' hTj hψa) rfl rfl rfl (by simp only [dstOk, Nat.reduceLT]) (by repeat (first | exact trivial | constructor)) (runs_eval tab_ok ?_))
            · exact ⟨⟨⟨by omega, by omega⟩, by omega, by omega⟩, by omega⟩
            simp only [ev0, evA, evB, evP, fl, gp, tab, simprocAttr, reduceCtorEq, reduceIte, il_get (show j < (nl T).length by omega), nl_get (show j < T.length by omega), ol_get (show a < (prow i S ψ).length by omega), pa]
            refine fin_run ?_ (hK _ ?_) <;> clear hK <;> clear K
            · (first | exact trivial | omega | (simp only [In64] at *; omega) | (simp [In64] at *; omega) | (simp_all; done) | skip)
            refine qa (qm ?_)
            rcases Bool.eq_false_or_eq_true (S (op m i (F.getD j 0) a)) with hSb | hSb <;> simp only [hSb, if_true, if_false, Bool.false_eq_true] at pb
            · refine hk_region fun K hK => runs_eval tab_ok ?_
              simp only [ev0, evA, evB, evP, fl, gp, tab, simprocAttr, reduceCtorEq, reduceIte, ol_get (show op m i (F.getD j 0) a < (prow i S ψ).length by omega), pb]
              refine fin_run ?_ (hK _ ?_) <;> clear hK <;> clear K
              · (first | exact trivial | omega | (simp only [In64] at *; omega) | (simp [In64] at *; omega) | (simp_all; done) | skip)
              refine qa ?_
              refine hk_cond rfl (fun hC5 => ?_) (fun hC5 => ?_)
              · (try simp only [nhs] at hC5)
                simp at hC5
                omega
              · (try simp only [nhs] at hC5)
                refine qm ?_
                refine hk_region fun K hK => runs_eval tab_ok ?_
                simp only [ev0, evA, evB, evP, fl, gp, tab, simprocAttr, reduceCtorEq, reduceIte, ol_get (show op m i (F.getD j 0) a < (prow i S ψ).length by omega), pb]
                refine fin_run ?_ (hK _ ?_) <;> clear hK <;> clear K
                · (first | exact trivial | omega | (simp only [In64] at *; omega) | (simp [In64] at *; omega) | (simp_all; done) | skip)
                refine qa ?_
                refine hk_cond rfl (fun hC6 => ?_) (fun hC6 => ?_)
                · (try simp only [nhs] at hC6)
                  have hdum : True := trivial
                  refine qm ?_
                  refine hk_region fun K hK => runs_eval tab_ok ?_
                  simp only [ev0, evA, evB, evP, fl, gp, tab, simprocAttr, reduceCtorEq, reduceIte]
                  refine fin_run trivial (hK _ ?_) <;> clear hK <;> clear K
                  refine qa (qk (qe (qb (qb (qe (qe (qb (qb (qe (qe (qb (qe (qb ?_)))))))))))))
                  simp only [Try.results32, PostG, endG, rvsA, rvA, mkTup, ev0, evA, evB, evP, fl, gp, tab, simprocAttr, reduceCtorEq, reduceIte]
                  all_goals (exact ⟨[], rfl, rfl, by simp only [leq, leA, ev0, evA, evB, evP, fl, gp, tab, simprocAttr, reduceCtorEq, reduceIte] <;> first | trivial | omega⟩)
                · (try simp only [nhs] at hC6)
                  have hv : ψ (op m i (F.getD j 0) a) = op M N (T.getD j 0) (ψ a) := by omega
                  refine qh (qd (qa ?_))
                  refine hk_region fun K hK => runs_eval tab_ok ?_
                  simp only [ev0, evA, evB, evP, fl, gp, tab, simprocAttr, reduceCtorEq, reduceIte]
                  refine fin_run ?_ (hK _ ?_) <;> clear hK <;> clear K
                  · (first | exact trivial | omega | (simp only [In64] at *; omega) | (simp [In64] at *; omega) | (simp_all; done) | skip)
                  refine qa ?_
                  refine ⟨(j + 1, S, ψ, ag2), [0, 1, 2], ⟨by simp only; omega, r2, r3, r4, fun h => ⟨(r5 h).1, fun _ y hy => ?_⟩⟩, by simp only; omega, ?_⟩
                  · by_cases hyj : y = j
                    · rw [hyj]; exact ⟨hSb, hv⟩
                    · exact (r5 h).2 k2 y (by omega)
                  · simp only [leq, leA, ev0, evA, evB, evP, fl, gp, tab, simprocAttr, reduceCtorEq, reduceIte] <;> first | trivial | omega
            · refine hk_region fun K hK => runs_eval tab_ok ?_
              simp only [ev0, evA, evB, evP, fl, gp, tab, simprocAttr, reduceCtorEq, reduceIte, ol_get (show op m i (F.getD j 0) a < (prow i S ψ).length by omega), pb]
              refine fin_run ?_ (hK _ ?_) <;> clear hK <;> clear K
              · (first | exact trivial | omega | (simp only [In64] at *; omega) | (simp [In64] at *; omega) | (simp_all; done) | skip)
              refine qa ?_
              refine hk_cond rfl (fun hC5 => ?_) (fun hC5 => ?_)
              · (try simp only [nhs] at hC5)
                refine qm ?_
                refine hk_region fun K hK => runs_eval tab_ok ?_
                simp only [ev0, evA, evB, evP, fl, gp, tab, simprocAttr, reduceCtorEq, reduceIte, ol_set, prow_set hbl hSb]
                refine fin_run ?_ (hK _ ?_) <;> clear hK <;> clear K
                · (first | exact trivial | omega | (simp only [In64] at *; omega) | (simp [In64] at *; omega) | (simp_all; done) | skip)
                refine qa ?_
                refine hk_region fun K hK => runs_eval tab_ok ?_
                simp only [ev0, evA, evB, evP, fl, gp, tab, simprocAttr, reduceCtorEq, reduceIte]
                refine fin_run trivial (hK _ ?_) <;> clear hK <;> clear K
                refine qd (qa ?_)
                refine hk_region fun K hK => runs_eval tab_ok ?_
                simp only [ev0, evA, evB, evP, fl, gp, tab, simprocAttr, reduceCtorEq, reduceIte]
                refine fin_run ?_ (hK _ ?_) <;> clear hK <;> clear K
                · (first | exact trivial | omega | (simp only [In64] at *; omega) | (simp [In64] at *; omega) | (simp_all; done) | skip)
                refine qa ?_
                have ho := outs_lt hbl hSb
                refine ⟨(j + 1, upd1 S (op m i (F.getD j 0) a), updF ψ (op m i (F.getD j 0) a) (op M N (T.getD j 0) (ψ a)), true), [0, 1, 2], ⟨by simp only; omega, r2.push G GG hF hT hal k2 hjl hSb, by simp only; omega, fun _ => by simp only; omega, fun h => by cases h⟩, by simp only; omega, ?_⟩
                simp only [leq, leA, ev0, evA, evB, evP, fl, gp, tab, simprocAttr, reduceCtorEq, reduceIte] <;> first | trivial | omega | (simp [prow_len]; done) | trace_state
              · (try simp only [nhs] at hC5)
                simp at hC5
          · (try simp only [nhs] at hC4)
            first | omega | (simp at hC4; done) | (simp at hC4; omega)
        · rw [if_neg k2] at pa
          refine hk_region fun K hK => runs_eval tab_ok ?_
          simp only [ev0, evA, evB, evP, fl, gp, tab, simprocAttr, reduceCtorEq, reduceIte, il_length, decide_eq_true (show ((j : Nat) : Int) < ((nl F).length : Nat) by omega), ol_get (show a < (prow i S ψ).length by omega), pa]
          refine fin_run ?_ (hK _ ?_) <;> clear hK <;> clear K
          · (first | exact trivial | omega | (simp only [In64] at *; omega) | (simp [In64] at *; omega) | (simp_all; done) | skip)
          refine qa ?_
          refine hk_cond rfl (fun hC4 => ?_) (fun hC4 => ?_)
          · (try simp only [nhs] at hC4)
            first | omega | (simp at hC4; done) | (simp at hC4; omega)
          · (try simp only [nhs] at hC4)
            refine qj (qc (qc (qf (qd (qa ?_)))))
            refine hk_region fun K hK => runs_eval tab_ok ?_
            simp only [ev0, evA, evB, evP, fl, gp, tab, simprocAttr, reduceCtorEq, reduceIte]
            refine fin_run ?_ (hK _ ?_) <;> clear hK <;> clear K
            · (first | exact trivial | omega | (simp only [In64] at *; omega) | (simp [In64] at *; omega) | (simp_all; done) | skip)
            refine qa ?_
            refine ⟨(a + 1, S, ψ, ag2), [0, 1, 2], ⟨by simp only; omega, r2, r3, r4, fun h b hb2 => ?_⟩, by simp only; omega, ?_⟩
            · by_cases hba : b = a
              · rw [hba]; exact fun hh => absurd hh k2
              · exact (r5 h).1 b (by simp only at hb2; omega)
            · simp only [leq, leA, ev0, evA, evB, evP, fl, gp, tab, simprocAttr, reduceCtorEq, reduceIte] <;> first | trivial | omega
      · (try simp only [nhs] at hC3)
        obtain rfl : a = i := by omega
        refine qj (qc (qc (qf (qd (qa ?_)))))
        refine ⟨(S1, ψ1, ag1), [0, 1, 2], ⟨q2, fun h => q5 h⟩, ?_, ?_⟩
        · cases ag1 with
          | false => simp only [Bool.toNat_false, Bool.toNat_true]; omega
          | true => have := q4 rfl; simp only [Bool.toNat_true]; omega
        · simp only [leq, leA, ev0, evA, evB, evP, fl, gp, tab, simprocAttr, reduceCtorEq, reduceIte] <;> first | trivial | omega
    · (try simp only [nhs] at hC2)
      subst hC2
      obtain ⟨hall, hext⟩ := hp.fin G GG hF hT hgen (hag rfl)
      exact absurd hext (hφ _)
end
end Go.Proofs.Ytboadfahlflmhaa

/-
  Sylow's subgroups, as the program has them: look, Cauchy, one. Conditions: none.
-/
set_option linter.all false
namespace Go.Proofs.Ytboadfahlflmhaa
open Go.Pv

section
variable {n e P : Nat} {m : List Int}
end
end Go.Proofs.Ytboadfahlflmhaa

/-
  Sylow's subgroups, as the program grows one. Conditions: none.
-/
set_option linter.all false
namespace Go.Proofs.Ytboadfahlflmhaa
open Go.Pv

section
variable {n e P : Nat} {m : List Int}
end
end Go.Proofs.Ytboadfahlflmhaa

/-
  Plain law: conjugated sets in a list that rises. Conditions: none.
-/
set_option linter.all false
namespace Go.Proofs.Ytboadfahlflmhaa
open Go.Pv

/-- All sets that a set is conjugated to, in their order. -/
structure SyS (n : Nat) (f : Nat → Nat → Nat) (e : Nat) (s : Nat → Bool) (SL : List Nat) : Prop where
  all : ∀ x, x ∈ SL ↔ ∃ a, a < n ∧ x = bo n (shf n f e s a)
  rise : SL.Pairwise fun x y => cmpL (stl x) (stl y) < 0
section
variable {n e : Nat} {f : Nat → Nat → Nat} {s : Nat → Bool} {SL : List Nat}
theorem SyS.nodup (h : SyS n f e s SL) : SL.Nodup := h.rise.imp fun {x y} hxy he => by
  subst he; rw [cmpL_self] at hxy; exact absurd hxy (by decide)
theorem SyS.pos (h : SyS n f e s SL) (G : Grp n f e) : 0 < SL.length := List.length_pos_of_mem ((h.all _).2 ⟨e, G.el, rfl⟩)
theorem SyS.len (h : SyS n f e s SL) : SL.length ≤ n := by
  have h1 := List.Nodup.length_le_of_subset h.nodup (l₂ := (List.range n).map fun a => bo n (shf n f e s a)) fun x hx => by
    obtain ⟨a, h1, h2⟩ := (h.all x).1 hx
    exact List.mem_map.2 ⟨a, List.mem_range.2 h1, h2.symm⟩
  simpa using h1
theorem SyS.num (h : SyS n f e s SL) (G : Grp n f e) (hs : Sub n f e s) : SL.length * (mem n (nzr n f e s)).length = n :=
  G.conj_num hs (code := bo n) (fun p q => ⟨fun he y hy => by
    have := congrArg (fun x => Nat.testBit x y) he
    simpa [bo_bit, hy] using this, fun he => bo_congr he⟩) h.nodup h.all
end
end Go.Proofs.Ytboadfahlflmhaa

/-
  The library's sort by a comparison, over a row of the caller's own: what it leaves. Conditions: none; a library text.
-/
set_option linter.all false
namespace Go.Pv
open Go.RowKit

section
variable {P : Program} {ρ : Go.Shelf.Ren}

end
end Go.Pv

/-
  Contracts of the library, laid at this dump: numbers, and that each body is the same. Conditions: none; written by a program of this repo out of the kit's own tool.
-/
set_option linter.all false
namespace Go.Proofs
open Go.Shelf
end Go.Proofs

/-
  All of Sylow's subgroups, as the program has them. Conditions: none.
-/
set_option linter.all false
namespace Go.Proofs.Ytboadfahlflmhaa
open Go.Pv

section
variable {n e P : Nat} {m : List Int}
end
end Go.Proofs.Ytboadfahlflmhaa

/-
  What things make, as a row that is new. Conditions: none.
-/
set_option linter.all false
namespace Go.Proofs.Ytboadfahlflmhaa
open Go.Pv

theorem span_g {n e : Nat} {m : List Int} (h : GT n m n e) (l : List Int) (hl : l.length ≤ 1000000000000) (hr : ∀ x ∈ l, ∃ a, a < n ∧ x = ((a : Nat) : Int)) (q : Nat → Bool) (hq : ∀ a, a < n → (q a = true ↔ Gen n (op m n) e (tst l) a)) : FnG Try.prog 61 [gp n m, .list (il l)] (.sl 0 0 (il (thl n q)).length) [.own (opl (il (thl n q)))] := by
  have G := h.2.2
  have T := h.2.1
  have hb := T.big
  have hel := G.el
  refine fng_of tab_ok Try.func61 rfl (by kernel_rfl) (by rw [Try.ntmps61]; exact Nat.le_add_left 2 _) ?_; rw [Try.ntmps61]
  refine qm ?_
  refine hk_region fun K hK => runs_eval tab_ok ?_
  simp only [ev0, evA, evB, evP, fl, gp, tab, simprocAttr, reduceCtorEq, reduceIte]
  refine fin_run ?_ (hK _ ?_) <;> clear hK <;> clear K
  · (first | exact trivial | omega | (simp only [In64] at *; omega) | (simp [In64] at *; omega) | (simp_all; done) | skip)
  refine qa (qm ?_)
  refine hk_region fun K hK => runs_eval tab_ok ?_
  simp only [ev0, evA, evB, evP, fl, gp, tab, simprocAttr, reduceCtorEq, reduceIte, makeSliceA.eq_def, obl_new]
  refine fin_run ?_ (hK _ ?_) <;> clear hK <;> clear K
  · omega
  refine qa (qm ?_)
  refine hk_draw mixed (by kernel_rfl) fun K hK => runs_eval tab_ok ?_
  simp only [ev0, evA, evB, evP, fl, gp, tab, simprocAttr, reduceCtorEq, reduceIte]
  refine fin_stop trivial (runs_call (e_c T) rfl rfl rfl (by simp only [dstOk, Nat.reduceLT]) (by repeat (first | exact trivial | constructor)) (runs_eval tab_ok ?_))
  simp only [ev0, evA, evB, evP, fl, gp, tab, simprocAttr, reduceCtorEq, reduceIte, h.eI]
  refine fin_run ?_ (hK _ ?_) <;> clear hK <;> clear K
  · rw [bl_len]; omega
  refine qa (qm (qm ?_))
  rw [obl_set, show upd (fun _ => false) e = fun a => decide (a = e) || tst (l.take 0) a from funext fun a => by simp [upd, tst]]
  refine hk_region fun K hK => runs_eval tab_ok ?_
  simp only [ev0, evA, evB, evP, fl, gp, tab, simprocAttr, reduceCtorEq, reduceIte]
  refine fin_run trivial (hK _ ?_) <;> clear hK <;> clear K
  refine qa (ql ?_)
  refine hk_loop (ι := Nat) (fun i => ⟨71, [(1, .p (.list (il l))), (2, .ptr 0 0), (5, .ptr 2 0), (6, .p (.int .i64 i))], [.own [.p (.int .i64 n), .p (.list (il m))], .own (opl (bl n fun a => decide (a = e) || tst (l.take i) a)), .own [.sl 1 0 n]]⟩) (fun i => i ≤ l.length) (fun i => l.length - i) 0 (Nat.zero_le _) [0, 1, 2] (by simp only [leq, leA, ev0, evA, evB, evP, fl, gp, tab, simprocAttr, reduceCtorEq, reduceIte] <;> first | trivial | (simp; done)) fun i hi => ?_
  refine qm (qm ?_)
  refine hk_region fun K hK => runs_eval tab_ok ?_
  simp only [ev0, evA, evB, evP, fl, gp, tab, simprocAttr, reduceCtorEq, reduceIte]
  refine fin_run trivial (hK _ ?_) <;> clear hK <;> clear K
  refine qa ?_
  refine hk_cond rfl (fun hC1 => ?_) (fun hC1 => ?_)
  · (try simp only [nhs] at hC1)
    have hlt : i < l.length := by omega
    have hmem : l.getD i 0 ∈ l := by simp [List.getD, List.getElem?_eq_getElem hlt]
    obtain ⟨x, x1, x2⟩ := hr _ hmem
    refine qh (qa (qm (ql ?_)))
    refine hk_draw mixed (by kernel_rfl) fun K hK => runs_eval tab_ok ?_
    simp only [ev0, evA, evB, evP, fl, gp, tab, simprocAttr, reduceCtorEq, reduceIte, il_get hlt, x2, obl_len]
    refine fin_run ?_ (hK _ ?_) <;> clear hK <;> clear K
    · rw [bl_len]; omega
    refine qd (qa ?_)
    rw [obl_set]
    refine hk_region fun K hK => runs_eval tab_ok ?_
    simp only [ev0, evA, evB, evP, fl, gp, tab, simprocAttr, reduceCtorEq, reduceIte]
    refine fin_run ?_ (hK _ ?_) <;> clear hK <;> clear K
    · (first | exact trivial | omega | (simp only [In64] at *; omega) | (simp [In64] at *; omega) | (simp_all; done) | skip)
    refine qa ?_
    refine ⟨i + 1, [0, 1, 2], by omega, by omega, ?_⟩
    have hc : bl n (fun a => decide (a = e) || tst (l.take (i + 1)) a) = bl n (upd (fun a => decide (a = e) || tst (l.take i) a) x) := bl_congr fun a ha => by
      rw [List.take_succ_eq_append_getElem hlt]
      have e1 : l[i] = (x : Int) := by rw [← x2]; simp [List.getD, List.getElem?_eq_getElem hlt]
      rw [e1]
      unfold upd tst
      rw [Bool.or_assoc]
      congr 1
      rw [← Bool.decide_or]
      refine decide_eq_decide.2 ?_
      rw [List.mem_append, List.mem_singleton]
      constructor
      · rintro (h | h)
        · exact .inl h
        · exact .inr (by omega)
      · rintro (h | h)
        · exact .inl h
        · exact .inr (by omega)
    rw [hc]
    simp only [leq, leA, ev0, evA, evB, evP, fl, gp, tab, simprocAttr, reduceCtorEq, reduceIte] <;> first | trivial | omega
  · (try simp only [nhs] at hC1)
    have hin : i = l.length := by omega
    subst hin
    rw [List.take_length]
    refine qj (qc (qc (qf (qa (qm (qm ?_))))))
    refine hk_region fun K hK => runs_eval tab_ok ?_
    simp only [ev0, evA, evB, evP, fl, gp, tab, simprocAttr, reduceCtorEq, reduceIte]
    refine fin_run trivial (hK _ ?_) <;> clear hK <;> clear K
    refine qa (ql ?_)
    refine hk_loop (ι := (Nat → Bool) × Bool) (fun p => ⟨71, [(2, .ptr 0 0), (5, .ptr 2 0), (7, .p (.bool p.2))], [.own [.p (.int .i64 n), .p (.list (il m))], .own (opl (bl n p.1)), .own [.sl 1 0 n]]⟩) (fun p => p.1 e = true ∧ (∀ a, a < n → tst l a = true → p.1 a = true) ∧ (∀ a, a < n → p.1 a = true → Gen n (op m n) e (tst l) a) ∧ (p.2 = false → ∀ a, a < n → ∀ b, b < n → p.1 a = true → p.1 b = true → p.1 (op m n a b) = true)) (fun p => 2 * (2 ^ 64 - bo n p.1) + (if p.2 = true then 1 else 0)) (fun a => decide (a = e) || tst l a, true) ⟨by simp, fun a _ h => by simp [h], fun a ha h => by
        simp only [Bool.or_eq_true, decide_eq_true_eq] at h
        rcases h with rfl | h
        · exact .one
        · exact Gen.mem G ha h, fun h => by cases h⟩ [0, 1, 2] (by simp only [leq, leA, ev0, evA, evB, evP, fl, gp, tab, simprocAttr, reduceCtorEq, reduceIte] <;> first | trivial | (simp; done)) fun p hp => ?_
    obtain ⟨r, again⟩ := p
    obtain ⟨r1, r2, r3, r4⟩ := hp
    simp only at r1 r2 r3 r4
    refine qm (qm ?_)
    refine hk_region fun K hK => runs_eval tab_ok ?_
    simp only [ev0, evA, evB, evP, fl, gp, tab, simprocAttr, reduceCtorEq, reduceIte]
    refine fin_run trivial (hK _ ?_) <;> clear hK <;> clear K
    refine qa ?_
    refine hk_cond rfl (fun hC2 => ?_) (fun hC2 => ?_)
    · (try simp only [nhs] at hC2)
      subst hC2
      refine qh (qa (ql (qm ?_)))
      refine hk_region fun K hK => runs_eval tab_ok ?_
      simp only [ev0, evA, evB, evP, fl, gp, tab, simprocAttr, reduceCtorEq, reduceIte]
      refine fin_run trivial (hK _ ?_) <;> clear hK <;> clear K
      refine qa (qm ?_)
      refine hk_region fun K hK => runs_eval tab_ok ?_
      simp only [ev0, evA, evB, evP, fl, gp, tab, simprocAttr, reduceCtorEq, reduceIte]
      refine fin_run trivial (hK _ ?_) <;> clear hK <;> clear K
      refine qa (ql ?_)
      refine hk_loop (ι := Nat × (Nat → Bool) × Bool) (fun p => ⟨71, [(2, .ptr 0 0), (5, .ptr 2 0), (7, .p (.bool p.2.2)), (8, .p (.int .i64 p.1))], [.own [.p (.int .i64 n), .p (.list (il m))], .own (opl (bl n p.2.1)), .own [.sl 1 0 n]]⟩) (fun p => p.1 ≤ n ∧ (∀ a, a < n → r a = true → p.2.1 a = true) ∧ (∀ a, a < n → p.2.1 a = true → Gen n (op m n) e (tst l) a) ∧ (p.2.2 = true → bo n r < bo n p.2.1) ∧ (p.2.2 = false → p.2.1 = r ∧ ∀ a, a < p.1 → ∀ b, b < n → r a = true → r b = true → r (op m n a b) = true)) (fun p => n - p.1) (0, r, false) ⟨Nat.zero_le _, fun a _ h => h, r3, fun h => by (first | cases h | simp at h), fun _ => ⟨rfl, fun a ha => by simp only at ha; omega⟩⟩ [0, 1, 2] (by simp only [leq, leA, ev0, evA, evB, evP, fl, gp, tab, simprocAttr, reduceCtorEq, reduceIte] <;> first | trivial | (simp; done)) fun p hp => ?_
      obtain ⟨i, r', ag⟩ := p
      obtain ⟨u1, u2, u3, u4, u5⟩ := hp
      simp only at u1 u2 u3 u4 u5
      refine qm (qm ?_)
      refine hk_region fun K hK => runs_eval tab_ok ?_
      simp only [ev0, evA, evB, evP, fl, gp, tab, simprocAttr, reduceCtorEq, reduceIte]
      refine fin_run ?_ (hK _ ?_) <;> clear hK <;> clear K
      · (first | exact trivial | omega | (simp only [In64] at *; omega) | (simp [In64] at *; omega) | (simp_all; done) | skip)
      refine qa ?_
      refine hk_cond rfl (fun hC3 => ?_) (fun hC3 => ?_)
      · (try simp only [nhs] at hC3)
        have hil : i < n := by omega
        refine qh (qa (qm (ql (qm ?_))))
        refine hk_region fun K hK => runs_eval tab_ok ?_
        simp only [ev0, evA, evB, evP, fl, gp, tab, simprocAttr, reduceCtorEq, reduceIte]
        refine fin_run trivial (hK _ ?_) <;> clear hK <;> clear K
        refine qa (ql ?_)
        refine hk_loop (ι := Nat × (Nat → Bool) × Bool) (fun p => ⟨71, [(2, .ptr 0 0), (5, .ptr 2 0), (7, .p (.bool p.2.2)), (8, .p (.int .i64 i)), (9, .p (.int .i64 p.1))], [.own [.p (.int .i64 n), .p (.list (il m))], .own (opl (bl n p.2.1)), .own [.sl 1 0 n]]⟩) (fun p => p.1 ≤ n ∧ (∀ a, a < n → r a = true → p.2.1 a = true) ∧ (∀ a, a < n → p.2.1 a = true → Gen n (op m n) e (tst l) a) ∧ (p.2.2 = true → bo n r < bo n p.2.1) ∧ (p.2.2 = false → p.2.1 = r ∧ (∀ a, a < i → ∀ b, b < n → r a = true → r b = true → r (op m n a b) = true) ∧ ∀ b, b < p.1 → r i = true → r b = true → r (op m n i b) = true)) (fun p => n - p.1) (0, r', ag) ⟨Nat.zero_le _, u2, u3, u4, fun h => ⟨(u5 h).1, (u5 h).2, fun b hb => by simp only at hb; omega⟩⟩ [0, 1, 2] (by simp only [leq, leA, ev0, evA, evB, evP, fl, gp, tab, simprocAttr, reduceCtorEq, reduceIte] <;> first | trivial | (simp; done)) fun p hp => ?_
        obtain ⟨j, r'', ag'⟩ := p
        obtain ⟨v1, v2, v3, v4, v5⟩ := hp
        simp only at v1 v2 v3 v4 v5
        refine qm (qm ?_)
        refine hk_region fun K hK => runs_eval tab_ok ?_
        simp only [ev0, evA, evB, evP, fl, gp, tab, simprocAttr, reduceCtorEq, reduceIte]
        refine fin_run ?_ (hK _ ?_) <;> clear hK <;> clear K
        · (first | exact trivial | omega | (simp only [In64] at *; omega) | (simp [In64] at *; omega) | (simp_all; done) | skip)
        refine qa ?_
        refine hk_cond rfl (fun hC4 => ?_) (fun hC4 => ?_)
        · (try simp only [nhs] at hC4)
          have hjl : j < n := by omega
          have hfl := G.cl i j hil hjl
          refine qh (qa (qm (ql (qm ?_))))
          rcases bool3 (r'' i) (r'' j) with hri | ⟨hri, hrj⟩ | ⟨hri, hrj⟩
          · refine hk_draw mixed (by kernel_rfl) fun K hK => runs_eval tab_ok ?_
            simp only [ev0, evA, evB, evP, fl, gp, tab, simprocAttr, reduceCtorEq, reduceIte, obl_get hil, bl_len, obl_len, hri]
            refine fin_run ?_ (hK _ ?_) <;> clear hK <;> clear K
            · omega
            refine qa ?_
            refine hk_cond rfl (fun hC5 => ?_) (fun hC5 => ?_)
            · cases hC5
            · refine qh (qd (qa ?_))
              refine hk_region fun K hK => runs_eval tab_ok ?_
              simp only [ev0, evA, evB, evP, fl, gp, tab, simprocAttr, reduceCtorEq, reduceIte]
              refine fin_run ?_ (hK _ ?_) <;> clear hK <;> clear K
              · (first | exact trivial | omega | (simp only [In64] at *; omega) | (simp [In64] at *; omega) | (simp_all; done) | skip)
              refine qa ?_
              refine ⟨(j + 1, r'', ag'), [0, 1, 2], ⟨by simp only; omega, v2, v3, v4, fun h => ?_⟩, by simp only; omega, ?_⟩
              · obtain ⟨x1, x2, x3⟩ := v5 h
                refine ⟨x1, x2, fun b hb' h1 h2 => ?_⟩
                by_cases hbj : b = j
                · rw [← x1, hri] at h1; cases h1
                · exact x3 b (by simp only at hb'; omega) h1 h2
              · simp only [leq, leA, ev0, evA, evB, evP, fl, gp, tab, simprocAttr, reduceCtorEq, reduceIte] <;> first | trivial | omega
          · refine hk_draw mixed (by kernel_rfl) fun K hK => runs_eval tab_ok ?_
            simp only [ev0, evA, evB, evP, fl, gp, tab, simprocAttr, reduceCtorEq, reduceIte, obl_get hil, obl_get hjl, bl_len, obl_len, hri, hrj]
            refine fin_run ?_ (hK _ ?_) <;> clear hK <;> clear K
            · omega
            refine qa ?_
            refine hk_cond rfl (fun hC5 => ?_) (fun hC5 => ?_)
            · cases hC5
            · refine qh (qd (qa ?_))
              refine hk_region fun K hK => runs_eval tab_ok ?_
              simp only [ev0, evA, evB, evP, fl, gp, tab, simprocAttr, reduceCtorEq, reduceIte]
              refine fin_run ?_ (hK _ ?_) <;> clear hK <;> clear K
              · (first | exact trivial | omega | (simp only [In64] at *; omega) | (simp [In64] at *; omega) | (simp_all; done) | skip)
              refine qa ?_
              refine ⟨(j + 1, r'', ag'), [0, 1, 2], ⟨by simp only; omega, v2, v3, v4, fun h => ?_⟩, by simp only; omega, ?_⟩
              · obtain ⟨x1, x2, x3⟩ := v5 h
                refine ⟨x1, x2, fun b hb' h1 h2 => ?_⟩
                by_cases hbj : b = j
                · rw [hbj, ← x1, hrj] at h2; cases h2
                · exact x3 b (by simp only at hb'; omega) h1 h2
              · simp only [leq, leA, ev0, evA, evB, evP, fl, gp, tab, simprocAttr, reduceCtorEq, reduceIte] <;> first | trivial | omega
          · refine hk_draw mixed (by kernel_rfl) fun K hK => runs_eval tab_ok ?_
            simp only [ev0, evA, evB, evP, fl, gp, tab, simprocAttr, reduceCtorEq, reduceIte, obl_get hil, obl_get hjl, obl_get hfl, bl_len, obl_len, hri, hrj]
            refine fin_stop ?_ (runs_call (m_c T hil hjl) rfl rfl rfl (by simp only [dstOk, Nat.reduceLT]) (by repeat (first | exact trivial | constructor)) (runs_eval tab_ok ?_))
            · omega
            simp only [ev0, evA, evB, evP, fl, gp, tab, simprocAttr, reduceCtorEq, reduceIte, obl_get hil, obl_get hjl, obl_get hfl, bl_len, obl_len, hri, hrj]
            refine fin_run ?_ (hK _ ?_) <;> clear hK <;> clear K
            · omega
            refine qa ?_
            refine hk_cond rfl (fun hC5 => ?_) (fun hC5 => ?_)
            · (try simp only [nhs] at hC5)
              refine qm ?_
              refine hk_draw mixed (by kernel_rfl) fun K hK => runs_eval tab_ok ?_
              simp only [ev0, evA, evB, evP, fl, gp, tab, simprocAttr, reduceCtorEq, reduceIte, obl_len, bl_len]
              refine fin_stop trivial (runs_call (m_c T hil hjl) rfl rfl rfl (by simp only [dstOk, Nat.reduceLT]) (by repeat (first | exact trivial | constructor)) (runs_eval tab_ok ?_))
              simp only [ev0, evA, evB, evP, fl, gp, tab, simprocAttr, reduceCtorEq, reduceIte, obl_len, bl_len]
              refine fin_run ?_ (hK _ ?_) <;> clear hK <;> clear K
              · omega
              refine qa ?_
              rw [obl_set]
              refine hk_region fun K hK => runs_eval tab_ok ?_
              simp only [ev0, evA, evB, evP, fl, gp, tab, simprocAttr, reduceCtorEq, reduceIte]
              refine fin_run trivial (hK _ ?_) <;> clear hK <;> clear K
              refine qd (qa ?_)
              refine hk_region fun K hK => runs_eval tab_ok ?_
              simp only [ev0, evA, evB, evP, fl, gp, tab, simprocAttr, reduceCtorEq, reduceIte]
              refine fin_run ?_ (hK _ ?_) <;> clear hK <;> clear K
              · (first | exact trivial | omega | (simp only [In64] at *; omega) | (simp [In64] at *; omega) | (simp_all; done) | skip)
              refine qa ?_
              have hnew : r'' (op m n i j) = false := by simpa using hC5
              have hgt : bo n r < bo n (upd r'' (op m n i j)) := by
                have h1 : bo n r'' < bo n (upd r'' (op m n i j)) := bo_lt_of (fun a _ h => by simp [upd, h]) hfl hnew (by simp [upd])
                cases hag : ag' with
                | true => have := v4 hag; omega
                | false => rw [(v5 hag).1] at h1; rw [(v5 hag).1]; exact h1
              refine ⟨(j + 1, upd r'' (op m n i j), true), [0, 1, 2], ⟨by simp only; omega, fun a ha h => ?_, fun a ha h => ?_, fun _ => hgt, fun h => by first | cases h | simp at h⟩, by simp only; omega, ?_⟩
              · simp [upd, v2 a ha h]
              · simp only [upd, Bool.or_eq_true, decide_eq_true_eq] at h
                rcases h with h | h
                · exact v3 a ha h
                · rw [h]; exact Gen.mul G (v3 i hil hri) (v3 j hjl hrj)
              · simp only [leq, leA, ev0, evA, evB, evP, fl, gp, tab, simprocAttr, reduceCtorEq, reduceIte] <;> first | trivial | omega
            · (try simp only [nhs] at hC5)
              refine qh (qd (qa ?_))
              refine hk_region fun K hK => runs_eval tab_ok ?_
              simp only [ev0, evA, evB, evP, fl, gp, tab, simprocAttr, reduceCtorEq, reduceIte]
              refine fin_run ?_ (hK _ ?_) <;> clear hK <;> clear K
              · (first | exact trivial | omega | (simp only [In64] at *; omega) | (simp [In64] at *; omega) | (simp_all; done) | skip)
              refine qa ?_
              have hin2 : r'' (op m n i j) = true := by simpa using hC5
              refine ⟨(j + 1, r'', ag'), [0, 1, 2], ⟨by simp only; omega, v2, v3, v4, fun h => ?_⟩, by simp only; omega, ?_⟩
              · obtain ⟨x1, x2, x3⟩ := v5 h
                refine ⟨x1, x2, fun b hb' h1 h2 => ?_⟩
                by_cases hbj : b = j
                · rw [hbj, ← x1]; exact hin2
                · exact x3 b (by simp only at hb'; omega) h1 h2
              · simp only [leq, leA, ev0, evA, evB, evP, fl, gp, tab, simprocAttr, reduceCtorEq, reduceIte] <;> first | trivial | omega
        · (try simp only [nhs] at hC4)
          have hjn : j = n := by omega
          subst hjn
          refine qj (qc (qc (qf (qd (qa ?_)))))
          refine hk_region fun K hK => runs_eval tab_ok ?_
          simp only [ev0, evA, evB, evP, fl, gp, tab, simprocAttr, reduceCtorEq, reduceIte]
          refine fin_run ?_ (hK _ ?_) <;> clear hK <;> clear K
          · (first | exact trivial | omega | (simp only [In64] at *; omega) | (simp [In64] at *; omega) | (simp_all; done) | skip)
          refine qa ?_
          refine ⟨(i + 1, r'', ag'), [0, 1, 2], ⟨by simp only; omega, v2, v3, v4, fun h => ?_⟩, by simp only; omega, ?_⟩
          · obtain ⟨x1, x2, x3⟩ := v5 h
            refine ⟨x1, fun a ha b hb' h1 h2 => ?_⟩
            by_cases hai : a = i
            · rw [hai] at h1 ⊢; exact x3 b hb' h1 h2
            · exact x2 a (by simp only at ha; omega) b hb' h1 h2
          · simp only [leq, leA, ev0, evA, evB, evP, fl, gp, tab, simprocAttr, reduceCtorEq, reduceIte] <;> first | trivial | omega
      · (try simp only [nhs] at hC3)
        have hin : i = n := by omega
        subst hin
        refine qj (qc (qc (qf (qd (qa ?_)))))
        refine ⟨(r', ag), [0, 1, 2], ⟨u2 e hel r1, fun a ha h => u2 a ha (r2 a ha h), u3, fun h a ha b hb' h1 h2 => ?_⟩, ?_, ?_⟩
        · obtain ⟨x1, x2⟩ := u5 h
          simp only [x1] at h1 h2 ⊢
          exact x2 a ha b hb' h1 h2
        · have h1 := bo_lt64 hb r'
          have h2 := bo_lt64 hb r
          simp only [if_true]
          cases hag : ag with
          | true => have := u4 hag; simp only [if_true]; omega
          | false => rw [(u5 hag).1]; simp
        · simp only [leq, leA, ev0, evA, evB, evP, fl, gp, tab, simprocAttr, reduceCtorEq, reduceIte] <;> first | trivial | omega
    · (try simp only [nhs] at hC2)
      subst hC2
      have hfin : bl n r = bl n q := bl_congr fun a ha => by
        rw [Bool.eq_iff_iff, hq a ha]
        refine ⟨r3 a ha, fun hg => ?_⟩
        exact Gen.least (H := fun x => r x = true) r1 (fun a b ga hb' hpb hH => r4 rfl a (ga.lt G) b hb' hH (r2 b hb' hpb)) hg
      rw [hfin]
      refine qj (qc (qc (qf (qa (qm ?_)))))
      refine hk_freeze 1 rfl (opl_allP _) ?_
      refine hk_purec 2 0 rfl rfl rfl ⟨by rw [bl_len]; omega, ?_⟩ ?_
      · rw [List.drop_zero, List.take_of_length_le (by rw [bl_len]; omega)]; exact bl_one n q
      simp only [hset, List.set, List.drop_zero]
      rw [List.take_of_length_le (by rw [bl_len]; omega)]
      refine hk_freeze 2 rfl rfl ?_
      simp only [hset]
      refine hk_region fun K hK => runs_eval tab_ok ?_
      simp only [ev0, evA, evB, evP, fl, gp, tab, simprocAttr, reduceCtorEq, reduceIte]
      refine fin_stop trivial (runs_callG (those_g n m _ _ q (by omega) (fun a ha => span1_c n a q ha hb)) rfl rfl (by first | rfl | (simp [scG, scA, sc1, opl]; done) | (simp only [scG, List.all_cons, List.all_nil, ol_sc, Bool.and_true]; rfl)) (by simp only [dstOk, Nat.reduceLT]) (by repeat (first | exact trivial | constructor)) (runs_eval tab_ok ?_))
      simp only [Go.Pv.shf, List.range', Blk.ren, opl_ren, ren, ren1, ev0, evA, evB, evP, fl, gp, tab, simprocAttr, reduceCtorEq, reduceIte]
      refine fin_run ?_ (hK _ ?_) <;> clear hK <;> clear K
      · (first | exact trivial | omega | (simp only [In64] at *; omega) | (simp [In64] at *; omega) | (simp_all; done) | skip)
      refine qa (qk ?_)
      simp only [Try.results61, PostG, endG, rvsA, rvA, mkTup, ev0, evA, evB, evP, fl, gp, tab, simprocAttr, reduceCtorEq, reduceIte]
      all_goals (exact ⟨[3], rfl, rfl, rfl, by simp, ⟨⟨by rw [opl_ren, List.take_length], opl_sc _ _⟩, trivial⟩, trivial⟩)
theorem span_f {n e : Nat} {m : List Int} (h : GT n m n e) (l : List Int) (hl : l.length ≤ 1000000000000) (hr : ∀ x ∈ l, ∃ a, a < n ∧ x = ((a : Nat) : Int)) (q : Nat → Bool) (hq : ∀ a, a < n → (q a = true ↔ Gen n (op m n) e (tst l) a)) : FnF Try.prog 61 [gp n m, .list (il l)] (.list (il (thl n q))) :=
  FnG_fnf (span_g h l hl hr q hq) (il_scal _)
end Go.Proofs.Ytboadfahlflmhaa

/-
  All subgroups, as the program has them: AllOf, All, Frattini. Conditions: none.
-/
set_option linter.all false
namespace Go.Proofs.Ytboadfahlflmhaa
open Go.Pv

def ul (L : List Nat) : List PV := L.map fun (x : Nat) => PV.int .u64 (x : Int)
theorem getD_memN {L : List Nat} {j : Nat} (hj : j < L.length) : L.getD j 0 ∈ L := by
  rw [List.getD_eq_getElem?_getD, List.getElem?_eq_getElem hj]; exact List.getElem_mem hj
theorem mem_getDN {L : List Nat} {x : Nat} (hx : x ∈ L) : ∃ j, j < L.length ∧ L.getD j 0 = x := by
  obtain ⟨j, hj, rfl⟩ := List.getElem_of_mem hx
  exact ⟨j, hj, by rw [List.getD_eq_getElem?_getD, List.getElem?_eq_getElem hj]; rfl⟩

section
variable {n e : Nat} {m : List Int}

/-- Where the search stands: at row i, things below a are done. -/
structure Srch (n : Nat) (f : Nat → Nat → Nat) (e : Nat) (i : Nat) (L : List Nat) : Prop where
  inv : AllI n f e L
  done : ∀ j, j < i → ∀ a, a < n → Dn n f e (L.getD j 0) a L

end
end Go.Proofs.Ytboadfahlflmhaa

/-
  All subgroups in lists: All; what no set needs: Frattini. Conditions: none.
-/
set_option linter.all false
namespace Go.Proofs.Ytboadfahlflmhaa
open Go.Pv

def sll (SL : List Nat) : List (List Int) := SL.map stl
theorem sll_get {SL : List Nat} {i : Nat} (hi : i < SL.length) : (sll SL).getD i [] = stl (SL.getD i 0) := by
  simp [sll, List.getD, List.getElem?_eq_getElem hi]
section
variable {n e : Nat} {m : List Int}
end
end Go.Proofs.Ytboadfahlflmhaa

/-
  What no set needs: Frattini. Conditions: none.
-/
set_option linter.all false
namespace Go.Proofs.Ytboadfahlflmhaa
open Go.Pv

def andn (a b : Nat) : Nat := (BitVec.ofInt 64 (a : Int) &&& ~~~(BitVec.ofInt 64 (b : Int))).toNat
theorem andn_zero {a b : Nat} (ha : a < 2 ^ 64) (hb : b < 2 ^ 64) : andn a b = 0 ↔ ∀ i, a.testBit i = true → b.testBit i = true := by
  have key : ∀ i, i < 64 → (andn a b).testBit i = (a.testBit i && !b.testBit i) := fun i hi => by
    unfold andn
    rw [BitVec.testBit_toNat, BitVec.getLsbD_and, BitVec.getLsbD_not, ← BitVec.testBit_toNat, ← BitVec.testBit_toNat, ofInt_n ha, ofInt_n hb]
    simp [hi]
  constructor
  · intro h i hi
    have hl := bit_lt ha hi
    have := key i hl
    rw [h, Nat.zero_testBit, hi] at this
    simpa using this
  · intro h
    refine Nat.eq_of_testBit_eq fun i => ?_
    rw [Nat.zero_testBit]
    by_cases hl : i < 64
    · rw [key i hl]
      cases ha' : a.testBit i with
      | false => rfl
      | true => rw [h i ha']; rfl
    · exact Nat.testBit_lt_two_pow (Nat.lt_of_lt_of_le (BitVec.isLt _) (Nat.pow_le_pow_right (by omega) (Nat.le_of_not_lt hl)))

/-! ### Rows of sets -/

/-! ### Frattini -/

/-- t is another set that has all of s. -/
def ovr (s t : Nat) : Bool := decide (¬ s = t) && decide (andn s t = 0)
/-- Row i has no other one over it, but the last. -/
def mxr (SL : List Nat) (i : Nat) : Bool := !decide (∃ j, j < SL.length - 1 ∧ (i < j ∧ ovr (SL.getD i 0) (SL.getD j 0) = true))
section
variable {n e : Nat} {m : List Int}
end
end Go.Proofs.Ytboadfahlflmhaa

/-
  Walks: the law SubProducts. Conditions: none.
-/
set_option linter.all false
namespace Go.Proofs.Ytboadfahlflmhaa
open Go.Pv

end Go.Proofs.Ytboadfahlflmhaa

/-
  Walks: the law SubMeets. Conditions: none.
-/
set_option linter.all false
namespace Go.Proofs.Ytboadfahlflmhaa
open Go.Pv

theorem AllS.len {n e : Nat} {f : Nat → Nat → Nat} {SL : List Nat} (h : AllS n f e SL) (hn : n ≤ 24) : SL.length ≤ 16777216 := by
  have h1 : SL.length ≤ 2 ^ n := nodup_lt h.nodup fun x hx => by
    obtain ⟨p, _, rfl⟩ := h.subs x hx
    exact bo_lt n p
  have h24 : 2 ^ n ≤ 16777216 := Nat.le_trans (Nat.pow_le_pow_right (by omega) hn) (by decide)
  omega
theorem AllS.row {n e : Nat} {f : Nat → Nat → Nat} {SL : List Nat} (h : AllS n f e SL) (hn : n ≤ 60) {i : Nat} (hi : i < SL.length) : ∃ p, Sub n f e p ∧ (sll SL).getD i [] = thl n p := by
  obtain ⟨p, hp, hx⟩ := h.subs _ (getD_memN hi)
  exact ⟨p, hp, by rw [sll_get hi, hx, stl_bo hn]⟩
theorem AllS.at {n e : Nat} {f : Nat → Nat → Nat} {SL : List Nat} (h : AllS n f e SL) (hn : n ≤ 60) {p : Nat → Bool} (hp : Sub n f e p) : ∃ i, i < SL.length ∧ (sll SL).getD i [] = thl n p := by
  obtain ⟨i, hi, hx⟩ := mem_getDN (h.all p hp)
  exact ⟨i, hi, by rw [sll_get hi, hx, stl_bo hn]⟩
section
variable {n e : Nat} {m : List Int}
end
end Go.Proofs.Ytboadfahlflmhaa

/-
  Walks: the law SubNeedless. Conditions: none.
-/
set_option linter.all false
namespace Go.Proofs.Ytboadfahlflmhaa
open Go.Pv

theorem AllS.pos {n e : Nat} {f : Nat → Nat → Nat} {SL : List Nat} (G : Grp n f e) (h : AllS n f e SL) : 0 < SL.length := List.length_pos_of_mem (h.all _ G.onp_sub)
theorem AllS.pair {n e : Nat} {f : Nat → Nat → Nat} {SL : List Nat} (h : AllS n f e SL) {i j : Nat} (hij : i < j) (hj : j < SL.length) : cmpS (stl (SL.getD i 0)) (stl (SL.getD j 0)) < 0 := by
  have := (List.pairwise_iff_getElem.1 h.rise) i j (by omega) hj hij
  simpa [List.getD, List.getElem?_eq_getElem hj, List.getElem?_eq_getElem (show i < SL.length by omega)] using this
theorem all_len (n : Nat) : (thl n fun _ => true).length = n := by rw [thl_len]; unfold thn'; rw [List.filter_eq_self.2 fun _ _ => rfl, List.length_range]
theorem len_all {n : Nat} {p : Nat → Bool} (h : ¬ (thl n p).length < n) : ∀ y, y < n → p y = true := by
  intro y hy
  cases hp : p y with
  | true => rfl
  | false =>
    exfalso
    have := mem_lt (n := n) (p := fun _ => true) (q := p) (fun _ _ _ => rfl) (fun hh => by have := hh y hy; rw [hp] at this; cases this)
    have e1 : (thl n p).length = (mem n p).length := thl_len _ _
    have e2 : (mem n fun _ => true).length = n := by unfold mem; rw [List.filter_eq_self.2 fun _ _ => rfl, List.length_range]
    omega
theorem AllS.last {n e : Nat} {f : Nat → Nat → Nat} {SL : List Nat} (G : Grp n f e) (h : AllS n f e SL) (hn : n ≤ 60) : SL.getD (SL.length - 1) 0 = bo n fun _ => true := by
  have hpos := h.pos G
  obtain ⟨t, ht, hx⟩ := mem_getDN (h.all _ G.all_sub)
  by_cases htl : t = SL.length - 1
  · rw [← htl]; exact hx
  · exfalso
    have hp := h.pair (i := t) (j := SL.length - 1) (by omega) (by omega)
    obtain ⟨p, _, hpl⟩ := h.subs _ (getD_memN (show SL.length - 1 < SL.length by omega))
    rw [hx, hpl, stl_bo hn, stl_bo hn, cmpS_lt, all_len] at hp
    have := thl_le n p
    rcases hp with hp | ⟨hp, hp2⟩
    · omega
    · have : thl n p = thl n fun _ => true := thl_congr fun y hy => len_all (by omega) y hy
      rw [this, cmpL_self] at hp2; omega
theorem ovr_bo {n : Nat} (hn : n ≤ 60) (p q : Nat → Bool) : ovr (bo n p) (bo n q) = true ↔ (¬ ∀ a, a < n → p a = q a) ∧ ∀ a, a < n → p a = true → q a = true := by
  unfold ovr
  rw [Bool.and_eq_true, decide_eq_true_eq, decide_eq_true_eq, andn_zero (bo_lt64 hn p) (bo_lt64 hn q)]
  refine and_congr (not_congr ⟨fun h a ha => bo_inj h ha, fun h => bo_congr h⟩) ⟨fun h a ha hp => ?_, fun h i hi => ?_⟩
  · have := h a (by rw [bo_bit]; simp [ha, hp])
    rw [bo_bit] at this; simpa [ha] using this
  · rw [bo_bit, Bool.and_eq_true, decide_eq_true_eq] at hi ⊢
    exact ⟨hi.1, h i hi.1 hi.2⟩

section
variable {n e : Nat} {m : List Int}
/-- A subgroup that is not all stands in one that nothing but all stands over. -/
theorem AllS.max {f : Nat → Nat → Nat} {SL : List Nat} (G : Grp n f e) (h : AllS n f e SL) (hn : n ≤ 60) {r : Nat → Bool} (hr : Sub n f e r) (hne : ¬ ∀ a, a < n → r a = true) :
    ∃ i p, i < SL.length - 1 ∧ SL.getD i 0 = bo n p ∧ Sub n f e p ∧ mxr SL i = true ∧ (∀ a, a < n → r a = true → p a = true) ∧ ¬ ∀ a, a < n → p a = true := by
  have hpos := h.pos G
  have hlast := h.last G hn
  have notlast : ∀ i p, i < SL.length → SL.getD i 0 = bo n p → (¬ ∀ a, a < n → p a = true) → i < SL.length - 1 := fun i p hi hx hp => by
    by_cases hil : i = SL.length - 1
    · exfalso
      rw [hil, hlast] at hx
      exact hp fun a ha => (bo_inj hx ha).symm
    · omega
  have go : ∀ c i p, SL.length - i ≤ c → i < SL.length → SL.getD i 0 = bo n p → Sub n f e p → (∀ a, a < n → r a = true → p a = true) → (¬ ∀ a, a < n → p a = true) →
      ∃ i p, i < SL.length - 1 ∧ SL.getD i 0 = bo n p ∧ Sub n f e p ∧ mxr SL i = true ∧ (∀ a, a < n → r a = true → p a = true) ∧ ¬ ∀ a, a < n → p a = true := by
    intro c
    induction c with
    | zero => intro i p hc hi; omega
    | succ c ih =>
      intro i p hc hi hx hp hrp hpn
      cases hm : mxr SL i with
      | true => exact ⟨i, p, notlast i p hi hx hpn, hx, hp, hm, hrp, hpn⟩
      | false =>
        unfold mxr at hm
        rw [Bool.not_eq_false', decide_eq_true_eq] at hm
        obtain ⟨j, j1, j2, j3⟩ := hm
        obtain ⟨q, hq, hqx⟩ := h.subs _ (getD_memN (show j < SL.length by omega))
        rw [hx, hqx, ovr_bo hn] at j3
        refine ih j q (by omega) (by omega) hqx hq (fun a ha h1 => j3.2 a ha (hrp a ha h1)) fun hall => ?_
        have : j = SL.length - 1 := by
          by_cases hjl : j < SL.length - 1
          · exfalso
            have hpq := h.pair (i := j) (j := SL.length - 1) hjl (by omega)
            rw [hlast, hqx, bo_congr (q := fun _ => true) (fun a ha => hall a ha)] at hpq
            exact cmpS_self _ hpq
          · omega
        omega
  obtain ⟨i, hi, hx⟩ := mem_getDN (h.all r hr)
  exact go _ i r (Nat.le_refl _) hi hx hr (fun a _ h => h) hne
end
end Go.Proofs.Ytboadfahlflmhaa

/-
  All subgroups as the document has them: from cyclic ones on, by what two make; put in order. Conditions: none.
-/
set_option linter.all false
namespace Go.Proofs.Ytboadfahlflmhaa
open Go.Pv

theorem oll_get {ls : List (List Int)} {i : Nat} (hlt : i < ls.length) (d : AV) : (opl (ll ls)).getD i d = .p (.list (il (ls.getD i []))) := by simp [opl, ll, List.getD, List.getElem?_eq_getElem hlt]
end Go.Proofs.Ytboadfahlflmhaa

/-
  The builtin clear, over a row of the call's own. Conditions: none; a library text.
-/
set_option linter.all false
namespace Go.Pv
open Go.RowKit

section
variable {P : Program} {T : TypeId → Option TI} {s : St}
end
end Go.Pv

/-
  Walks: rows without doubles. Conditions: none.
-/
set_option linter.all false
namespace Go.Proofs.Ytboadfahlflmhaa
open Go.Pv

section
variable {α : Type} [DecidableEq α]
/-- A row without what repeats what stands ahead of it. -/
def cpN (d : α) (xs : List α) (k : Nat) : List α := ((List.range k).filter fun j => j == 0 || decide (xs.getD j d ≠ xs.getD (j - 1) d)).map fun j => xs.getD j d
theorem cpN_succ (d : α) (xs : List α) (k : Nat) : cpN d xs (k + 1) = if k = 0 ∨ xs.getD k d ≠ xs.getD (k - 1) d then cpN d xs k ++ [xs.getD k d] else cpN d xs k := by
  unfold cpN
  rw [List.range_succ, List.filter_append, List.map_append]
  by_cases h : k = 0 ∨ xs.getD k d ≠ xs.getD (k - 1) d
  · rw [if_pos h]
    congr 1
    rw [List.filter_cons_of_pos (by
      simp only [Bool.or_eq_true, beq_iff_eq, decide_eq_true_eq]
      exact h)]
    rfl
  · rw [if_neg h]
    rw [List.filter_cons_of_neg (by
      simp only [Bool.or_eq_true, beq_iff_eq, decide_eq_true_eq]
      exact h)]
    simp
/-- Within: what stands so far. -/
structure CpS (d : α) (xs : List α) (i0 k : Nat) (R : List α) (i : Nat) : Prop where
  len : R.length = xs.length
  tk : R.take i = cpN d xs (i0 + k)
  il : (cpN d xs (i0 + k)).length = i
  lt : 0 < i ∧ i + 1 ≤ i0 + k
  le : i0 + k ≤ xs.length
  same : ∀ j, i0 + k ≤ j + 1 → j < xs.length → R.getD j d = xs.getD j d

theorem CpS.begin {d : α} {xs : List α} {i : Nat} (hi : i + 1 < xs.length) (h : cpN d xs (i + 1) = xs.take (i + 1)) (hd : xs.getD (i + 1) d = xs.getD i d) : CpS d xs (i + 1) 1 xs (i + 1) := by
  have e : cpN d xs (i + 1 + 1) = xs.take (i + 1) := by
    rw [cpN_succ, if_neg (by simpa using hd), h]
  exact ⟨rfl, e.symm, by rw [e]; simp; omega, by omega, by omega, fun _ _ _ => rfl⟩
theorem CpS.skip {d : α} {xs R : List α} {i0 k i : Nat} (h : CpS d xs i0 k R i) (hk : i0 + k < xs.length) (hd : R.getD (i0 + k) d = R.getD (i0 + k - 1) d) : CpS d xs i0 (k + 1) R i := by
  have hl := h.lt
  rw [h.same _ (by omega) hk, h.same _ (by omega) (by omega)] at hd
  have e : cpN d xs (i0 + (k + 1)) = cpN d xs (i0 + k) := by
    rw [← Nat.add_assoc, cpN_succ, if_neg]
    rintro (h1 | h1)
    · omega
    · exact h1 hd
  exact ⟨h.len, by rw [e]; exact h.tk, by rw [e]; exact h.il, by omega, by omega, fun j h1 h2 => h.same j (by omega) h2⟩
end

theorem oll_set2 (l : List (List Int)) (i : Nat) (x : List Int) : (opl (ll l)).set i (.p (.list (il x))) = opl (ll (l.set i x)) := by
  simp [opl, ll, List.map_set]
end Go.Proofs.Ytboadfahlflmhaa
