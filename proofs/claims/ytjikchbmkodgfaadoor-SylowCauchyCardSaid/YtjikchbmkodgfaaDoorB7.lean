/-
  Texts of this proof, one behind the other: what each says stands at its head. Conditions: none.
-/
import Derived.Test.YtjikchbmkodgfaaDoorB3
import Derived.Shelf.SlSortCmp.Whole1
import Derived.Test.YtjikchbmkodgfaaDoorProg
import Derived.Shelf.SlLaysF
import Derived.Maps.RangeRun
import Derived.Test.YtjikchbmkodgfaaDoorB6
import Derived.Test.YtjikchbmkodgfaaDoorB4
import Derived.Test.YtjikchbmkodgfaaDoorRows
import Derived.ProofKit
import Derived.LaidMore
import Derived.OpenShut
import Derived.Stop.Joined

/-
  Calls that write what is the caller's own: contracts over blocks. Conditions: none; a library text.
-/
set_option linter.all false
namespace Go.Pv
open Go.RowKit

def ancs : Nat → Nat → Heap
  | _, 0 => []
  | k, n + 1 => .anc k k :: ancs (k + 1) n

theorem ancs_get : ∀ (n k j : Nat) (b : Blk), (ancs k n)[j]? = some b → j < n ∧ b = .anc (k + j) (k + j)
  | 0, k, j, b, h => by simp [ancs] at h
  | n + 1, k, 0, b, h => by simp [ancs] at h; exact ⟨by omega, h.symm⟩
  | n + 1, k, j + 1, b, h => by
    have := ancs_get n (k + 1) j b (by simpa [ancs] using h)
    refine ⟨by omega, ?_⟩
    rw [this.2, show k + 1 + j = k + (j + 1) by omega]

theorem ancs_at : ∀ (n k j : Nat), j < n → (ancs k n)[j]? = some (.anc (k + j) (k + j))
  | n + 1, k, 0, _ => rfl
  | n + 1, k, j + 1, h => by
    rw [show ancs k (n + 1) = .anc k k :: ancs (k + 1) n from rfl, List.getElem?_cons_succ, ancs_at n (k + 1) j (by omega), show k + 1 + j = k + (j + 1) by omega]

theorem ancs_length : ∀ (n k : Nat), (ancs k n).length = n
  | 0, _ => rfl
  | n + 1, k => by simp [ancs, ancs_length n]

def entA : Nat → List AV → List (Nat × AV)
  | _, [] => []
  | k, a :: r => (k, a) :: entA (k + 1) r

theorem entA_lk : ∀ (l : List AV) (k t : Nat), lk (entA k l) t = if k ≤ t then l.getD (t - k) .dead else .dead
  | [], k, t => by simp [entA, lk]
  | a :: r, k, t => by
    simp only [entA, lk]
    by_cases h : k = t
    · subst h; simp
    · rw [show (k == t) = false by simpa using h]
      simp only [cond_false]
      rw [entA_lk r (k + 1) t]
      by_cases hk : k ≤ t
      · rw [if_pos (by omega), if_pos hk, show t - k = (t - (k + 1)) + 1 by omega]; rfl
      · rw [if_neg (by omega), if_neg hk]

theorem app_get {H X : Heap} {k : Nat} {b : Blk} (h : (H ++ X)[k]? = some b) : (k < H.length ∧ H[k]? = some b) ∨ X[k - H.length]? = some b := by
  by_cases hk : k < H.length
  · exact .inl ⟨hk, by rwa [List.getElem?_append_left hk] at h⟩
  · exact .inr (by rwa [List.getElem?_append_right (by omega)] at h)

section
variable {P : Program} {T : TypeId → Option TI} {C : Ctx} {m : Map} {s : St} {tmps : Array Value} {w : World}

theorem Rel.addAnc (R : Rel C m s tmps w) {n : Nat} (hn : n ≤ s.H.length) (ha : ∀ i, i < n → m i = C.anc i) : Rel C m { s with H := s.H ++ ancs 0 n } tmps w := by
  have gen : ∀ (k : Nat) (b : Blk), (∀ i j, b ≠ .anc i j) → (s.H ++ ancs 0 n)[k]? = some b → k < s.H.length ∧ s.H[k]? = some b := by
    intro k b hb h
    rcases app_get h with h | h
    · exact h
    · exact absurd (ancs_get _ _ _ _ h).2 (hb _ _)
  have own : ∀ (k : Nat) (c : List AV), (s.H ++ ancs 0 n)[k]? = some (.own c) → k < s.H.length ∧ s.H[k]? = some (.own c) := fun k c h => gen k _ (fun _ _ h => by cases h) h
  have mps : ∀ (k : Nat) (kk : IntKind) (d : Int → Bool) (v : Int → PV), (s.H ++ ancs 0 n)[k]? = some (Blk.mp kk d v) → k < s.H.length ∧ s.H[k]? = some (Blk.mp kk d v) := fun k _ _ _ h => gen k _ (fun _ _ h => by cases h) h
  have ho : ∀ b, OK C m s.H w b → OK C m (s.H ++ ancs 0 n) w b := fun b h => ⟨h.1, h.2.1, fun k c l hk hl => h.2.2 k c l (own k c hk).2 hl⟩
  have hlen : s.H.length ≤ (s.H ++ ancs 0 n).length := by simp
  have rd : ∀ p v, Reads (OK C m s.H w) w p v → Reads (OK C m (s.H ++ ancs 0 n) w) w p v := fun p v h => h.mono ho
  refine ⟨R.laid.ext rd, R.below, R.base, R.size, fun k k' c c' l l' h1 h2 => R.inj k k' c c' l l' (own k c h1).2 (own k' c' h2).2, fun k c h => (R.blk k c (own k c h).2).ext rd hlen (fun _ _ => rfl) rfl fun _ _ => rfl,
    fun k c h => (R.fro k c (gen k _ (fun _ _ h => by cases h) h).2).ext ho (fun _ _ => rfl) rfl, fun t => (R.slot t).ext rd hlen fun _ _ => rfl, fun k kk d v h => (R.mp.1 k kk d v (mps k kk d v h).2).ext ho (fun _ _ => rfl) rfl fun _ _ => rfl,
    fun k k' kk d v kk' d' v' l l' h1 h2 => R.mp.2.1 k k' kk d v kk' d' v' l l' (mps _ _ _ _ h1).2 (mps _ _ _ _ h2).2, fun k i j h => ?_⟩
  rcases app_get h with h | h
  · obtain ⟨a1, a2⟩ := R.mp.2.2 k i j h.2
    exact ⟨by simp; omega, a2⟩
  · obtain ⟨a1, a2⟩ := ancs_get _ _ _ _ h
    cases a2
    refine ⟨by simp; omega, ?_⟩
    rw [ha _ (by omega)]

/-! ### The contract -/

/-- A CONTRACT OVER BLOCKS: called with values that are so over such blocks of the caller's own, the function returns so, over those blocks as they are then, and new ones. -/
def FnM (P : Program) (f : FuncId) (args : List AV) (H0 : Heap) (r : AV) (H1 : Heap) : Prop :=
  Fun P f ∧ ∀ (C : Ctx) (m : Map) (w : World) (vals : Array Value), Rel C m ⟨args.length, entA 0 args, H0 ++ ancs 0 H0.length⟩ vals w →
    Calls P f vals w fun e w' => ∃ v m', e = .returned v ∧ Rel C m' ⟨1, [(0, r)], H1 ++ ancs 0 H0.length⟩ #[v] w'

theorem fnm_of (hT : ∀ t ti, T t = some ti → tiOf P t = some ti) {f : FuncId} {fn : Func} {c : Code} {args : List AV} {av : AV} {H0 H1 : Heap} (hf : P.funcs[f]? = some fn) (hb : fn.body = some c) (hnm : (fn.name == "runtime.NumGoroutine") = false) (hn : args.length ≤ fn.ntmps)
    (h : Holds P c (PostG T fn.results.toList av (H1 ++ ancs 0 H0.length)) ⟨fn.ntmps, entA 0 args, H0 ++ ancs 0 H0.length⟩) : FnM P f args H0 av H1 := by
  refine ⟨⟨fn, hf, hnm, by rw [hb]; rfl⟩, fun C m w vals R0 => calls_of_wp hf hb ?_⟩
  have hsz : vals.size = args.length := R0.size
  have R : Rel C m ⟨fn.ntmps, entA 0 args, H0 ++ ancs 0 H0.length⟩ (vals ++ Array.replicate (fn.ntmps - vals.size) undef) w := by
    refine ⟨R0.laid, R0.below, R0.base, by simp; omega, R0.inj, R0.blk, R0.fro, fun t => ?_, R0.mp⟩
    have hs := R0.slot t
    by_cases ht : t < vals.size
    · rw [Array.getD_eq_getD_getElem?, Array.getElem?_append_left ht, ← Array.getD_eq_getD_getElem?]
      exact hs
    · have e : lk (entA 0 args) t = .dead := by
        rw [entA_lk, if_pos (Nat.zero_le _), List.getD_eq_getElem?_getD, List.getElem?_eq_none (by omega)]; rfl
      unfold St.get
      simp only
      rw [e]
      exact .dead _
  refine wp_mono (h _ _ { tmps := vals ++ Array.replicate (fn.ntmps - vals.size) undef, defers := [] } w R rfl) fun e a' w' ⟨s', m', h1, h2, h3⟩ => ?_
  have fini : endG T fn.results.toList av (H1 ++ ancs 0 H0.length) s' → a'.defers = [] ∧ ∃ v, (results fn a'.tmps).run P w' = .ok v w' ∧ ∃ v_1 m'', Ending.returned v = .returned v_1 ∧ Rel C m'' ⟨1, [(0, av)], H1 ++ ancs 0 H0.length⟩ #[v_1] w' := by
    intro he
    unfold endG at he
    split at he
    · rename_i p l hl
      obtain ⟨hp, π, hav, hsc, hle⟩ := he
      obtain ⟨vs, e1, e2, e3⟩ := rvsA_run hT h2 fn.results.toList hl hp
      have hv := mkTup_val (w := w') e2 e3
      have R' := h2.weaken hle
      rw [hav] at hv
      have hlen : (H1 ++ ancs 0 H0.length).length = π.length := (hle.2.2.1.get).1.symm
      have ho := OK.weaken (C := C) (m := m') (w := w') hle.2.2.1
      have hv2 := hv.unren (fun p v h => h.mono ho) hlen hsc
      refine ⟨h3, (if h : vs.toArray.size = 1 then vs.toArray[0] else .tuple vs.toArray), ?_, _, _, rfl, R'.laid, R'.below, R'.base, rfl, R'.inj, R'.blk, R'.fro, fun t => ?_, R'.mp⟩
      · rw [results_eq, Array.mapM_eq_mapM_toList]
        simp only [Sem.run_bind, Sem.run_map]
        rw [e1]
        simp only [Result.andThen_ok]
        rfl
      · cases t with
        | zero => exact hv2
        | succ t => exact .dead _
    · exact he.elim
  cases e with
  | normal => exact fini h1
  | ret => exact fini h1
  | _ => exact h1.elim

/-! ### Who calls it -/

theorem AVal.sig {rd rd' : PV → Value → Prop} {m m2 : Map} {H H2 : Heap} {σ : List Nat} (h1 : ∀ p v, rd p v → rd' p v) (hs : ∀ k, k < σ.length → σ.getD k 0 < H2.length ∧ m2 (σ.getD k 0) = m k) {x : AV} {v : Value} (h : AVal rd m H x v)
    (hx : scA σ.length x = true) : AVal rd' m2 H2 (Go.Pv.ren σ x) v := by
  have one : ∀ {x : AV} {v : Value}, AVal rd m H x v → sc1 σ.length x = true → AVal rd' m2 H2 (ren1 σ x) v := by
    intro x v h hsc
    cases h with
    | dead v => exact .dead v
    | p pv v h => exact .p pv v (h1 _ _ h)
    | sl k lo len v hk h =>
      obtain ⟨g1, g2⟩ := hs k (by simpa [sc1] using hsc)
      refine .sl _ lo len v g1 ?_
      unfold SlOk at *
      rw [g2]; exact h
    | ptr k i v hk h =>
      obtain ⟨g1, g2⟩ := hs k (by simpa [sc1] using hsc)
      refine .ptr _ i v g1 ?_
      unfold PtrOk at *
      rw [g2]; exact h
    | agg l vs hl hr => simp [sc1] at hsc
    | tup l vs hl hr => simp [sc1] at hsc
    | cl f l vs hl hr => simp [sc1] at hsc
    | itv r => exact .itv r
    | mptr k v hk h =>
      obtain ⟨g1, g2⟩ := hs k (by simpa [sc1] using hsc)
      refine .mptr _ v g1 ?_
      unfold MptrOk at *
      rw [g2]; exact h
  cases x with
  | agg l =>
    cases h with
    | agg _ vs hl hr =>
      refine .agg _ vs (by simpa using hl) fun c hc => ?_
      rw [List.length_map] at hc
      rw [List.getElem_map]
      exact one (hr c hc) ((List.all_eq_true.1 hx) _ (List.getElem_mem hc))
  | tup l =>
    cases h with
    | tup _ vs hl hr =>
      refine .tup _ vs (by simpa using hl) fun c hc => ?_
      rw [List.length_map] at hc
      rw [List.getElem_map]
      exact one (hr c hc) ((List.all_eq_true.1 hx) _ (List.getElem_mem hc))
  | cl f l =>
    cases h with
    | cl _ _ vs hl hr =>
      refine .cl _ _ vs (by simpa using hl) fun c hc => ?_
      rw [List.length_map] at hc
      rw [List.getElem_map]
      exact one (hr c hc) ((List.all_eq_true.1 hx) _ (List.getElem_mem hc))
  | dead => exact one h hx
  | p pv => exact one h hx
  | sl k lo len => exact one h hx
  | ptr k i => exact one h hx
  | mptr k => exact one h hx
  | itv r => exact one h hx

/-- Blocks put back: those that were lent, in their places; new ones behind. -/
def putM : Heap → List Nat → Heap → Heap
  | H, [], bs => H ++ bs
  | H, _ :: _, [] => H
  | H, k :: ks, b :: bs => putM (hset H k b) ks bs

theorem putM_get : ∀ (ks : List Nat) (bs H : Heap) (k : Nat) (b : Blk), (∀ k ∈ ks, k < H.length) → ks.length ≤ bs.length → (putM H ks bs)[k]? = some b →
    (∃ j : Nat, bs[j]? = some b ∧ (ks ++ List.range' H.length (bs.length - ks.length))[j]? = some k) ∨ (k < H.length ∧ k ∉ ks ∧ H[k]? = some b)
  | [], bs, H, k, b, _, _, h => by
    simp only [putM] at h
    by_cases hk : k < H.length
    · exact .inr ⟨hk, by simp, by rwa [List.getElem?_append_left hk] at h⟩
    · rw [List.getElem?_append_right (by omega)] at h
      · refine .inl ⟨k - H.length, h, ?_⟩
        have := (List.getElem?_eq_some_iff.1 h).1
        simp only [List.nil_append, List.length_nil, Nat.sub_zero]
        rw [List.getElem?_range' this]
        simp; omega
  | k0 :: ks, [], H, k, b, _, hl, _ => by simp at hl
  | k0 :: ks, b0 :: bs, H, k, b, hk, hl, h => by
    simp only [putM] at h
    have h0 := hk k0 (by simp)
    rcases putM_get ks bs (hset H k0 b0) k b (fun k hk' => by rw [hset_length]; exact hk k (by simp [hk'])) (by simpa using hl) h with ⟨j, h1, h2⟩ | ⟨h1, h2, h3⟩
    · rw [hset_length] at h2
      exact .inl ⟨j + 1, by simpa using h1, by simpa using h2⟩
    · rw [hset_get] at h3
      rw [hset_length] at h1
      by_cases e : k = k0
      · subst e
        rw [if_pos ⟨rfl, h0⟩] at h3
        exact .inl ⟨0, by simpa using h3, by simp⟩
      · rw [if_neg (by simp [e])] at h3
        exact .inr ⟨h1, by simp [e, h2], h3⟩

theorem putM_length : ∀ (ks : List Nat) (bs H : Heap), ks.length ≤ bs.length → (putM H ks bs).length = H.length + (bs.length - ks.length)
  | [], bs, H, _ => by simp [putM]
  | k0 :: ks, [], H, hl => by simp at hl
  | k0 :: ks, b0 :: bs, H, hl => by
    simp only [putM]
    rw [putM_length ks bs _ (by simpa using hl), hset_length]; simp

/-- Maps stay maps. -/
def mpKeep : Heap → Heap → Bool
  | .mp _ _ _ :: r, .mp _ _ _ :: t => mpKeep r t
  | .mp _ _ _ :: _, _ => false
  | _ :: r, _ :: t => mpKeep r t
  | [], _ => true
  | _ :: _, [] => false

theorem mpKeep_get : ∀ {H0 H1 : Heap}, mpKeep H0 H1 = true → ∀ (j : Nat) (kk : IntKind) (d : Int → Bool) (v : Int → PV), H0[j]? = some (.mp kk d v) → ∃ kk' d' v', H1[j]? = some (.mp kk' d' v')
  | [], _, _, j, _, _, _, h => by simp at h
  | b :: r, [], hm, _, _, _, _, _ => by cases b <;> simp [mpKeep] at hm
  | b :: r, b' :: t, hm, 0, kk, d, v, h => by
    simp at h; subst h
    cases b' <;> simp [mpKeep] at hm
    exact ⟨_, _, _, rfl⟩
  | b :: r, b' :: t, hm, j + 1, kk, d, v, h => by
    have hm2 : mpKeep r t = true := by cases b <;> cases b' <;> simp [mpKeep] at hm <;> exact hm
    simpa using mpKeep_get hm2 j kk d v (by simpa using h)

def scM (av : AV) (H0 H1 : Heap) : Bool :=
  scA H1.length av && H1.all (fun | .own c => c.all (scA H1.length) | .anc _ _ => false | _ => true) && decide (H0.length ≤ H1.length) && mpKeep H0 H1 && H0.all notAnc

/-- The frame of who is called with blocks that are lent. -/
def subC (C : Ctx) (m : Map) (H : Heap) (ks : List Nat) (H0 : Heap) (w : World) : Ctx :=
  ⟨fun b => OK C m H w b, fun b => w.heap.size ≤ b ∨ ∃ (j : Nat) (b0 : Blk) (l : Loc), H0[j]? = some b0 ∧ b0.wr = true ∧ mren m ks j = some l ∧ l.g = b, w, mren m ks⟩

theorem Rel.wrLt (R : Rel C m s tmps w) {k : Nat} {b : Blk} (hb : s.H[k]? = some b) (hw : b.wr = true) {l : Loc} (hl : m k = some l) : C.B l.g ∧ l.g < w.heap.size := by
  cases b with
  | own c =>
    rcases R.blk k c hb with ⟨_, hn⟩ | ⟨l', cur, e, a1, a2, a3, _⟩
    · rw [hl] at hn; cases hn
    · rw [hl] at a1; cases a1
      exact ⟨a2, (Array.getElem?_eq_some_iff.1 a3).1⟩
  | mp kk d v =>
    obtain ⟨l', ar, clk, vs, a1, a2, a3, _⟩ := R.mp.1 k kk d v hb
    rw [hl] at a1; cases a1
    exact ⟨a2, (Array.getElem?_eq_some_iff.1 a3).1⟩
  | _ => cases hw

theorem Rel.inj2 (R : Rel C m s tmps w) {k k' : Nat} {b b' : Blk} (hb : s.H[k]? = some b) (hw : b.wr = true) (hb' : s.H[k']? = some b') (hw' : b'.wr = true) {l l' : Loc} (hl : m k = some l) (hl' : m k' = some l') (e : l.g = l'.g) : k = k' := by
  cases b with
  | own c =>
    cases b' with
    | own c' => exact R.inj k k' c c' l l' hb hb' hl hl' e
    | mp kk d v => exact absurd e ((R.mpOK hb' hl').2.2 k c l hb hl)
    | _ => cases hw'
  | mp kk d v =>
    cases b' with
    | own c' => exact absurd e.symm ((R.mpOK hb hl).2.2 k' c' l' hb' hl')
    | mp kk' d' v' => exact R.mp.2.1 _ _ _ _ _ _ _ _ _ _ hb hb' hl hl' e
    | _ => cases hw'
  | _ => cases hw

theorem LeH.wr {π : List Nat} {H H1 : Heap} (h3 : LeH π H π H1) {j : Nat} {b0 : Blk} (h : H1[j]? = some b0) (hw : b0.wr = true) : ∃ k' b, π[j]? = some k' ∧ H[k']? = some b ∧ b.wr = true ∧ ((∃ c, b0 = .own c) → ∃ c, b = .own c) ∧ ((∃ kk d v, b0 = .mp kk d v) → ∃ kk d v, b = .mp kk d v) := by
  obtain ⟨g1, g2⟩ := h3.get
  cases b0 with
  | own c =>
    obtain ⟨k', d, a1, a2, _⟩ := LeH.own g2 j c h
    exact ⟨k', _, a1, a2, rfl, (fun _ => ⟨_, rfl⟩), fun ⟨_, _, _, h⟩ => by cases h⟩
  | mp kk d v =>
    obtain ⟨k', a, b⟩ := g2 j _ h
    exact ⟨k', _, a, hget_some b (by simp), rfl, (fun ⟨_, h⟩ => by cases h), fun _ => ⟨_, _, _, rfl⟩⟩
  | _ => cases hw

theorem Rel.joinM (R : Rel C m s tmps w) {ks : List Nat} {H0 H1 : Heap} {r : AV} {w' : World} {v : Value} {m' : Map} (hle : LeH ks s.H ks H0) (hks : ∀ k ∈ ks, k < s.H.length) (R1 : Rel (subC C m s.H ks H0 w) m' ⟨1, [(0, r)], H1 ++ ancs 0 H0.length⟩ #[v] w') (hsc : scM r H0 H1 = true) :
    ∃ m2, Rel C m2 { s with H := putM s.H ks (H1.map (Blk.ren (ks ++ List.range' s.H.length (H1.length - ks.length)))) } tmps w' ∧
      AVal (Reads (OK C m2 (putM s.H ks (H1.map (Blk.ren (ks ++ List.range' s.H.length (H1.length - ks.length))))) w') w') m2 (putM s.H ks (H1.map (Blk.ren (ks ++ List.range' s.H.length (H1.length - ks.length))))) (Go.Pv.ren (ks ++ List.range' s.H.length (H1.length - ks.length)) r) v := by
  obtain ⟨g1, g2⟩ := hle.get
  unfold scM at hsc
  rw [Bool.and_eq_true, Bool.and_eq_true, Bool.and_eq_true, Bool.and_eq_true, decide_eq_true_eq] at hsc
  obtain ⟨⟨⟨⟨s1, s2⟩, s3⟩, s4⟩, s5⟩ := hsc
  have hn : ks.length ≤ H1.length := by omega
  generalize hσe : ks ++ List.range' s.H.length (H1.length - ks.length) = σ
  have hσlen : σ.length = H1.length := by rw [← hσe]; simp; omega
  generalize hH2 : putM s.H ks (H1.map (Blk.ren σ)) = H2
  have hlen2 : H2.length = s.H.length + (H1.length - ks.length) := by rw [← hH2, putM_length _ _ _ (by simpa using hn)]; simp
  -- where the callee's blocks lie
  have hm1 : ∀ j, j < H0.length → m' j = mren m ks j := fun j hj => by
    have h : (H1 ++ ancs 0 H0.length)[H1.length + j]? = some (.anc j j) := by
      rw [List.getElem?_append_right (by omega), Nat.add_sub_cancel_left, ancs_at _ _ _ hj, Nat.zero_add]
    exact (R1.mp.2.2 _ _ _ h).2
  obtain ⟨m2, hm2⟩ : ∃ m2 : Map, m2 = fun k => if k < s.H.length then m k else m' (ks.length + (k - s.H.length)) := ⟨_, rfl⟩
  have hmo : ∀ k, k < s.H.length → m2 k = m k := fun k h => by rw [hm2]; simp [h]
  have hσ : ∀ (j k : Nat), σ[j]? = some k → k < H2.length ∧ m2 k = m' j := by
    intro j k h
    rw [← hσe] at h
    by_cases hj : j < ks.length
    · rw [List.getElem?_append_left hj] at h
      have hk := hks k (List.mem_of_getElem? h)
      refine ⟨by omega, ?_⟩
      rw [hmo k hk, hm1 j (by omega)]
      simp only [mren, h, Option.bind_some]
    · rw [List.getElem?_append_right (by omega)] at h
      have hj2 : j - ks.length < H1.length - ks.length := by
        have := (List.getElem?_eq_some_iff.1 h).1
        simpa using this
      rw [List.getElem?_range' hj2] at h
      simp only [Option.some.injEq, Nat.one_mul] at h
      subst h
      refine ⟨by omega, ?_⟩
      rw [hm2]
      simp only
      rw [if_neg (by omega)]
      congr 1
      omega
  have hσ2 : ∀ k, k < σ.length → σ.getD k 0 < H2.length ∧ m2 (σ.getD k 0) = m' k := fun k hk => by
    have : σ[k]? = some (σ.getD k 0) := by simp [List.getD, List.getElem?_eq_getElem hk]
    exact hσ k _ this
  have hget : ∀ (k : Nat) (b : Blk), H2[k]? = some b → (∃ (j : Nat) (b' : Blk), H1[j]? = some b' ∧ b = b'.ren σ ∧ σ[j]? = some k) ∨ (k < s.H.length ∧ k ∉ ks ∧ s.H[k]? = some b) := by
    intro k b h
    rw [← hH2] at h
    rcases putM_get ks _ s.H k b hks (by simpa using hn) h with ⟨j, h1, h2⟩ | h
    · rw [List.length_map, hσe] at h2
      rw [List.getElem?_map] at h1
      cases e : H1[j]? with
      | none => rw [e] at h1; cases h1
      | some b' => rw [e] at h1; exact .inl ⟨j, b', e, (Option.some.inj h1).symm, h2⟩
    · exact .inr h
  have hHc : ∀ (j : Nat) (b : Blk), H1[j]? = some b → (H1 ++ ancs 0 H0.length)[j]? = some b := fun j b h => by
    rw [List.getElem?_append_left (List.getElem?_eq_some_iff.1 h).1]; exact h
  have hown : ∀ (k : Nat) (c : List AV), H2[k]? = some (.own c) → (∃ (j : Nat) (c' : List AV), H1[j]? = some (.own c') ∧ c = c'.map (Go.Pv.ren σ) ∧ σ[j]? = some k) ∨ (k < s.H.length ∧ k ∉ ks ∧ s.H[k]? = some (.own c)) := by
    intro k c h
    rcases hget k _ h with ⟨j, b', h1, h2, h3⟩ | h
    · cases b' with
      | own c' => simp only [Blk.ren, Blk.own.injEq] at h2; exact .inl ⟨j, c', h1, h2, h3⟩
      | _ => cases h2
    · exact .inr h
  have hmps : ∀ (k : Nat) (kk : IntKind) (d : Int → Bool) (vv : Int → PV), H2[k]? = some (.mp kk d vv) → (∃ j : Nat, H1[j]? = some (.mp kk d vv) ∧ σ[j]? = some k) ∨ (k < s.H.length ∧ k ∉ ks ∧ s.H[k]? = some (.mp kk d vv)) := by
    intro k kk d vv h
    rcases hget k _ h with ⟨j, b', h1, h2, h3⟩ | h
    · cases b' with
      | mp kk' d' v' => simp only [Blk.ren, Blk.mp.injEq] at h2; obtain ⟨rfl, rfl, rfl⟩ := h2; exact .inl ⟨j, h1, h3⟩
      | _ => cases h2
    · exact .inr h
  have hfro : ∀ (k : Nat) (c : List PV), H2[k]? = some (.fro c) → (∃ j : Nat, H1[j]? = some (.fro c) ∧ σ[j]? = some k) ∨ (k < s.H.length ∧ k ∉ ks ∧ s.H[k]? = some (.fro c)) := by
    intro k c h
    rcases hget k _ h with ⟨j, b', h1, h2, h3⟩ | h
    · cases b' with
      | fro c' => simp only [Blk.ren, Blk.fro.injEq] at h2; subst h2; exact .inl ⟨j, h1, h3⟩
      | _ => cases h2
    · exact .inr h
  have lent : ∀ (j : Nat) (b0 : Blk) (l : Loc), H0[j]? = some b0 → b0.wr = true → mren m ks j = some l → ∃ k' b, k' ∈ ks ∧ s.H[k']? = some b ∧ b.wr = true ∧ m k' = some l ∧ ((∃ c, b0 = .own c) → ∃ c, b = .own c) ∧ ((∃ kk d v, b0 = .mp kk d v) → ∃ kk d v, b = .mp kk d v) := by
    intro j b0 l h hw hl
    obtain ⟨k', b, a1, a2, a3, a4, a5⟩ := hle.wr h hw
    simp only [mren, a1, Option.bind_some] at hl
    exact ⟨k', b, List.mem_of_getElem? a1, a2, a3, hl, a4, a5⟩
  have hB1 : ∀ b, (subC C m s.H ks H0 w).B b → C.B b := by
    intro b hb
    rcases hb with hb | ⟨j, b0, l, h1, h2, h3, rfl⟩
    · exact R.base b hb
    · obtain ⟨k', b, _, a2, a3, a4, _⟩ := lent j b0 l h1 h2 h3
      exact (R.wrLt a2 a3 a4).1
  have hBx : ∀ (k : Nat) (b : Blk) (l : Loc), k ∉ ks → s.H[k]? = some b → b.wr = true → m k = some l → ¬ (subC C m s.H ks H0 w).B l.g := by
    intro k b l hk hb hw hl hB
    rcases hB with hB | ⟨j, b0, l0, h1, h2, h3, h4⟩
    · have := (R.wrLt hb hw hl).2
      omega
    · obtain ⟨k', b', a1, a2, a3, a4, _⟩ := lent j b0 l0 h1 h2 h3
      have := R.inj2 hb hw a2 a3 hl a4 h4.symm
      subst this
      exact hk a1
  have hcell : ∀ b o x, OK C m s.H w b → w.cell? ⟨b, o, none⟩ = some x → w'.cell? ⟨b, o, none⟩ = some x := by
    intro b o x hb hc
    by_cases hB : (subC C m s.H ks H0 w).B b
    · exfalso
      rcases hB with hB | ⟨j, b0, l0, h1, h2, h3, h4⟩
      · have := hb.2.1; omega
      · obtain ⟨k', b', a1, a2, a3, a4, _⟩ := lent j b0 l0 h1 h2 h3
        cases b' with
        | own c => exact hb.2.2 k' c l0 a2 a4 h4
        | mp kk d vv =>
          obtain ⟨l', ar, clk, vs, c1, c2, c3, _⟩ := R.mp.1 k' kk d vv a2
          rw [a4] at c1; cases c1
          rw [h4] at c3
          unfold World.cell? at hc
          simp only [c3] at hc
          first | cases hc | simp at hc
        | _ => cases a3
    · rw [World.cell?_of_block (w := w) (R1.below.block b hB)]; exact hc
  have hOK : ∀ b, OK (subC C m s.H ks H0 w) m' (H1 ++ ancs 0 H0.length) w' b → OK C m2 H2 w' b := by
    intro b hb
    refine ⟨?_, hb.2.1, fun k c l h hl => ?_⟩
    · rcases hb.1 with h | h
      · exact h.1
      · exact .inr (hB1 b h)
    · rcases hown k c h with ⟨j, c', h1, _, h3⟩ | ⟨h1, h2, h3⟩
      · rw [(hσ j k h3).2] at hl
        exact hb.2.2 j c' l (hHc _ _ h1) hl
      · rw [hmo k h1] at hl
        rcases hb.1 with h' | h'
        · exact h'.2.2 k c l h3 hl
        · intro e
          exact hBx k _ l h2 h3 rfl hl (by rw [e]; exact h')
  have ho1 : ∀ b, OK C m s.H w b → OK C m2 H2 w' b := by
    intro b hb
    refine ⟨hb.1, Nat.lt_of_lt_of_le hb.2.1 R1.below.size, fun k c l h hl e => ?_⟩
    rcases hown k c h with ⟨j, c', h1, _, h3⟩ | ⟨h1, h2, h3⟩
    · rw [(hσ j k h3).2] at hl
      rcases (R1.wrLt (hHc _ _ h1) rfl hl).1 with hB | ⟨j0, b0, l0, a1, a2, a3, a4⟩
      · have := hb.2.1; omega
      · obtain ⟨k', b', d1, d2, d3, d4, d5, d6⟩ := lent j0 b0 l0 a1 a2 a3
        cases b0 with
        | own c0 =>
          obtain ⟨c1, rfl⟩ := d5 ⟨_, rfl⟩
          exact hb.2.2 k' c1 l0 d2 d4 (by rw [a4, e])
        | mp kk d vv =>
          obtain ⟨kk', d', v', f1⟩ := mpKeep_get s4 j0 kk d vv a1
          have hj0 : j0 < H0.length := (List.getElem?_eq_some_iff.1 a1).1
          have f2 : m' j0 = some l0 := by rw [hm1 j0 hj0]; exact a3
          exact (R1.mpOK (hHc _ _ f1) f2).2.2 j c' l (hHc _ _ h1) hl a4.symm
        | _ => cases a2
    · rw [hmo k h1] at hl
      exact hb.2.2 k c l h3 hl e
  have rd1 : ∀ p x, Reads (OK C m s.H w) w p x → Reads (OK C m2 H2 w') w' p x := fun p x h => h.extc ho1 hcell
  have rd2 : ∀ p x, Reads (OK (subC C m s.H ks H0 w) m' (H1 ++ ancs 0 H0.length) w') w' p x → Reads (OK C m2 H2 w') w' p x := fun p x h => h.mono hOK
  have hlen3 : s.H.length ≤ H2.length := by omega
  have sall : ∀ (j : Nat) (b : Blk), H1[j]? = some b → (match b with | .own c => c.all (scA H1.length) | .anc _ _ => false | _ => true) = true := fun j b h => by
    have := (List.all_eq_true.1 s2) _ (List.mem_of_getElem? h)
    cases b <;> exact this
  refine ⟨m2, ⟨R.laid.ext rd1, R.below.trans ⟨R1.below.os, R1.below.tape, R1.below.output, R1.below.size, fun k hk => R1.below.block k fun h => hk (hB1 k h), R1.below.dr⟩, fun b h => R.base b (Nat.le_trans R1.below.size h), R.size, ?_, ?_, ?_, fun t => ?_, ?_, ?_, ?_⟩, ?_⟩
  · intro k k' c c' l l' h1 h2 h3 h4 h5
    rcases hown k c h1 with ⟨j, d, a1, _, a3⟩ | ⟨a1, a2, a3⟩ <;> rcases hown k' c' h2 with ⟨j', d', b1, _, b3⟩ | ⟨b1, b2, b3⟩
    · rw [(hσ _ _ a3).2] at h3; rw [(hσ _ _ b3).2] at h4
      have := R1.inj j j' d d' l l' (hHc _ _ a1) (hHc _ _ b1) h3 h4 h5
      subst this
      rw [a3] at b3
      exact Option.some.inj b3
    · rw [(hσ _ _ a3).2] at h3; rw [hmo _ b1] at h4
      exact absurd (by rw [← h5]; exact (R1.wrLt (hHc _ _ a1) rfl h3).1) (hBx k' _ l' b2 b3 rfl h4)
    · rw [hmo _ a1] at h3; rw [(hσ _ _ b3).2] at h4
      exact absurd (by rw [h5]; exact (R1.wrLt (hHc _ _ b1) rfl h4).1) (hBx k _ l a2 a3 rfl h3)
    · rw [hmo _ a1] at h3; rw [hmo _ b1] at h4
      exact R.inj k k' c c' l l' a3 b3 h3 h4 h5
  · intro k c h
    rcases hown k c h with ⟨j, c', a1, rfl, a3⟩ | ⟨a1, a2, a3⟩
    · rcases R1.blk j c' (hHc _ _ a1) with ⟨e, hn⟩ | ⟨l, cur, e, b1, b2, b3, b4, b5, b6, b7⟩
      · exact .inl ⟨by rw [e]; rfl, by rw [(hσ _ _ a3).2]; exact hn⟩
      · refine .inr ⟨l, cur, e, by rw [(hσ _ _ a3).2]; exact b1, hB1 _ b2, b3, b4, b5, by simpa using b6, fun i hi => ?_⟩
        rw [List.length_map] at hi
        rw [List.getElem_map]
        have hs : scA σ.length c'[i] = true := by
          rw [hσlen]
          exact (List.all_eq_true.1 (sall j _ a1)) _ (List.getElem_mem hi)
        exact (b7 i hi).sig rd2 hσ2 hs
    · refine (R.blk k c a3).ext rd1 hlen3 hmo (hmo k a1) fun l hl => R1.below.block _ (hBx k _ l a2 a3 rfl hl)
  · intro k c h
    rcases hfro k c h with ⟨j, a1, a3⟩ | ⟨a1, a2, a3⟩
    · rcases R1.fro j c (hHc _ _ a1) with ⟨e1, e2⟩ | ⟨l, vs, e1, e2, e3, e4⟩
      · exact .inl ⟨e1, by rw [(hσ _ _ a3).2]; exact e2⟩
      · exact .inr ⟨l, vs, by rw [(hσ _ _ a3).2]; exact e1, hOK _ e2, e3, fun i hi => ⟨(e4 i hi).1, rd2 _ _ (e4 i hi).2⟩⟩
    · rcases R.fro k c a3 with ⟨e1, e2⟩ | ⟨l, vs, e1, e2, e3, e4⟩
      · exact .inl ⟨e1, by rw [hmo k a1]; exact e2⟩
      · exact .inr ⟨l, vs, by rw [hmo k a1]; exact e1, ho1 _ e2, e3, fun i hi => ⟨hcell _ _ _ e2 (e4 i hi).1, rd1 _ _ (e4 i hi).2⟩⟩
  · exact (R.slot t).ext rd1 hlen3 hmo
  · intro k kk d vv h
    rcases hmps k kk d vv h with ⟨j, a1, a3⟩ | ⟨a1, a2, a3⟩
    · obtain ⟨l, ar, clk, vs, b1, b2, b3, b4, b5, b6, b7⟩ := R1.mp.1 j kk d vv (hHc _ _ a1)
      exact ⟨l, ar, clk, vs, by rw [(hσ _ _ a3).2]; exact b1, hB1 _ b2, b3, b4, b5, b6, fun z hz => rd2 _ _ (b7 z hz)⟩
    · obtain ⟨l, ar, clk, vs, b1, b2, b3, b4, b5, b6, b7⟩ := R.mp.1 k kk d vv a3
      exact ⟨l, ar, clk, vs, by rw [hmo k a1]; exact b1, b2, by rw [R1.below.block _ (hBx k _ l a2 a3 rfl b1)]; exact b3, b4, b5, b6, fun z hz => rd1 _ _ (b7 z hz)⟩
  · intro k k' kk d vv kk' d' v' l l' h1 h2 h3 h4 h5
    rcases hmps k kk d vv h1 with ⟨j, a1, a3⟩ | ⟨a1, a2, a3⟩ <;> rcases hmps k' kk' d' v' h2 with ⟨j', b1, b3⟩ | ⟨b1, b2, b3⟩
    · rw [(hσ _ _ a3).2] at h3; rw [(hσ _ _ b3).2] at h4
      have := R1.mp.2.1 _ _ _ _ _ _ _ _ _ _ (hHc _ _ a1) (hHc _ _ b1) h3 h4 h5
      subst this
      rw [a3] at b3
      exact Option.some.inj b3
    · rw [(hσ _ _ a3).2] at h3; rw [hmo _ b1] at h4
      exact absurd (by rw [← h5]; exact (R1.wrLt (hHc _ _ a1) rfl h3).1) (hBx k' _ l' b2 b3 rfl h4)
    · rw [hmo _ a1] at h3; rw [(hσ _ _ b3).2] at h4
      exact absurd (by rw [h5]; exact (R1.wrLt (hHc _ _ b1) rfl h4).1) (hBx k _ l a2 a3 rfl h3)
    · rw [hmo _ a1] at h3; rw [hmo _ b1] at h4
      exact R.mp.2.1 _ _ _ _ _ _ _ _ _ _ a3 b3 h3 h4 h5
  · intro k i j h
    rcases hget k _ h with ⟨j', b', h1, h2, _⟩ | ⟨a1, a2, a3⟩
    · have := sall j' b' h1
      cases b' with
      | anc _ _ => cases this
      | _ => cases h2
    · obtain ⟨c1, c2⟩ := R.mp.2.2 k i j a3
      exact ⟨by simp only; omega, by rw [hmo j c1]; exact c2⟩
  · have := R1.slot 0
    exact AVal.sig rd2 hσ2 this (by rw [hσlen]; exact s1)

/-! ### The call -/

def argM1 (H : Heap) (ks : List Nat) (x a : AV) : Prop :=
  match a with
  | .p pv => (match peekG H x with | some (p, pv', true) => p ∧ pv' = pv | _ => False)
  | a => x = Go.Pv.ren ks a ∧ scA ks.length a = true

def argsM (H : Heap) (ks : List Nat) : List AV → List AV → Prop
  | x :: xs, a :: avs => argM1 H ks x a ∧ argsM H ks xs avs
  | [], [] => True
  | _, _ => False

theorem argsM_val (R : Rel C m s tmps w) {rd' : PV → Value → Prop} {ks : List Nat} {H0 : Heap} (h1 : ∀ p v, Reads (OK C m s.H w) w p v → rd' p v) (hl : H0.length = ks.length) : ∀ (X avs : List AV) (f : Nat → Value), argsM s.H ks X avs → (∀ i (h : i < X.length), AVal (Reads (OK C m s.H w) w) m s.H X[i] (f i)) →
    avs.length = X.length ∧ ∀ i (h : i < avs.length), AVal rd' (mren m ks) H0 avs[i] (f i)
  | [], [], f, _, _ => ⟨rfl, fun i h => by simp at h⟩
  | x :: xs, a :: avs, f, h, hv => by
    obtain ⟨k1, k2⟩ := argsM_val R h1 hl xs avs (fun i => f (i + 1)) h.2 fun i hi => by have := hv (i + 1) (by simp; omega); rwa [List.getElem_cons_succ] at this
    refine ⟨by simp [k1], fun i hi => ?_⟩
    cases i with
    | succ i => simpa using k2 i (by simpa using hi)
    | zero =>
      have hx := hv 0 (by simp)
      simp only [List.getElem_cons_zero] at hx ⊢
      have h0 := h.1
      unfold argM1 at h0
      split at h0
      · rename_i pv
        split at h0
        · rename_i p pv' hp
          obtain ⟨g1, rfl⟩ := h0
          exact .p _ _ (h1 _ _ ((peekG_val R hx hp g1).2 rfl))
        · exact h0.elim
      · obtain ⟨rfl, hsc⟩ := h0
        exact hx.unren h1 hl hsc
  | [], _ :: _, _, h, _ => h.elim
  | _ :: _, [], _, h, _ => h.elim

theorem call_doesM {o : Oper} {fo : Operand} {args : Array Operand} {ts : Array TypeId} (ho : o.op = .call { callee := .value fo, args := args, argTypes := ts }) {g : FuncId} {cap : List PV} (hfo : s.ev fo = .p (.fn g cap)) {ks : List Nat} {avs : List AV} {H0 H1 : Heap} {r : AV}
    (hc : FnM P g avs H0 r H1) (hargs : argsM s.H ks (args.toList.map s.ev ++ cap.map .p) avs) (hle : LeH ks s.H ks H0) (hnd : ks.Nodup) (hks : ks.all (fun k => decide (k < s.H.length)) = true) (hsc : scM r H0 H1 = true) :
    DoesW P o s (Go.Pv.ren (ks ++ List.range' s.H.length (H1.length - ks.length)) r) (putM s.H ks (H1.map (Blk.ren (ks ++ List.range' s.H.length (H1.length - ks.length))))) := by
  intro C m a w K Q R hK
  have hks' : ∀ k ∈ ks, k < s.H.length := fun k hk => by simpa using (List.all_eq_true.1 hks) k hk
  have hfv := R.ev fo
  rw [hfo] at hfv
  generalize hfe : a.eval fo = fv at hfv
  have hfv := hfv.p_inv
  cases hfv with
  | fn _ _ vs hcl hcr =>
    obtain ⟨⟨fn, hfn, hnm, hbd⟩, hcalls⟩ := hc
    have hrun : (execOp a.eval o).run P w = .ok (.enter g (args.map a.eval ++ vs)) w := by
      have hnm' : ¬ fn.name = "runtime.NumGoroutine" := by simpa using hnm
      have hbd' : ¬ fn.body = none := by intro e; rw [e] at hbd; simp at hbd
      simp [execOp, ho, resolve, hfe, Deferred.ofValue, invoke, callFunc, hfn, hnm', hbd']
    unfold Oper.wp
    rw [hrun]
    simp only [Oper.upon]
    obtain ⟨g1, g2⟩ := hle.get
    have ho1 : ∀ b, OK C m s.H w b → OK (subC C m s.H ks H0 w) (mren m ks) H0 w b := by
      refine fun b h => ⟨.inl h, h.2.1, fun k c l hk hl => ?_⟩
      obtain ⟨k', d, a1, a2, _⟩ := LeH.own g2 k c hk
      simp only [mren, a1, Option.bind_some] at hl
      exact h.2.2 k' _ l a2 hl
    obtain ⟨e1, e2⟩ := argsM_val R (rd' := Reads (OK (subC C m s.H ks H0 w) (mren m ks) H0 w) w) (H0 := H0) (fun p v h => h.mono ho1) g1.symm _ avs (fun i => (args.map a.eval ++ vs).getD i undef) hargs fun i hi => by
      simp only [List.length_append, List.length_map, Array.length_toList] at hi
      by_cases hip : i < args.size
      · rw [List.getElem_append_left (by simpa using hip)]
        simp only [Array.getD_eq_getD_getElem?]
        rw [Array.getElem?_append_left (by simpa using hip)]
        have := R.ev args[i]
        simpa [Array.getElem?_eq_getElem hip] using this
      · rw [List.getElem_append_right (by simp; omega)]
        simp only [Array.getD_eq_getD_getElem?]
        rw [Array.getElem?_append_right (by simp; omega)]
        simp only [List.getElem_map, List.length_map, Array.length_toList, Array.size_map]
        have := hcr (i - args.size) (by omega)
        rw [Array.getD_eq_getD_getElem?] at this
        exact .p _ _ this
    have hsz : (args.map a.eval ++ vs).size = avs.length := by
      rw [e1]; simp; omega
    have s5 : H0.all notAnc = true := by
      unfold scM at hsc
      rw [Bool.and_eq_true] at hsc
      exact hsc.2
    have R0 : Rel (subC C m s.H ks H0 w) (mren m ks) ⟨avs.length, entA 0 avs, H0⟩ (args.map a.eval ++ vs) w := by
      refine R.weakenC (s1 := ⟨avs.length, entA 0 avs, H0⟩) hsz hnd hle ho1 (BelowP.refl _ _) (fun b h => .inl h) (fun k b l h hw hl _ => .inr ⟨k, b, l, h, hw, hl, rfl⟩) (fun k i j h => ?_) fun t => ?_
      · exact absurd rfl (notAnc_spec ((List.all_eq_true.1 s5) _ (List.mem_of_getElem? h)) i j)
      · unfold St.get
        simp only
        rw [entA_lk, if_pos (Nat.zero_le _), Nat.sub_zero]
        by_cases ht : t < avs.length
        · have := e2 t ht
          simpa [List.getD, List.getElem?_eq_getElem ht] using this
        · rw [List.getD_eq_getElem?_getD, List.getElem?_eq_none (by omega)]
          exact .dead _
    have R0' := R0.addAnc (n := H0.length) (Nat.le_refl _) fun i _ => rfl
    refine (hcalls _ _ w _ R0').mono fun e w' ⟨v, m', he, R1⟩ => ?_
    subst he
    obtain ⟨m2, R2, hv⟩ := R.joinM hle hks' R1 hsc
    exact hK v m2 w' R2 hv

/-- THE WORD OF THE WALK: a call that is lent blocks. -/
theorem runs_callM {all : Array Oper} {rest : List Oper} {K : St → Prop} {dst : Option Tmp} {ty : TypeId} {pos : String} {aft : Array Edge} {gd : Option (Nat × Bool)} {fo : Operand} {args : Array Operand} {ts : Array TypeId} {g : FuncId} {avs : List AV} {H0 H1 : Heap} {r : AV} (ks : List Nat)
    (hc : FnM P g avs H0 r H1) {cap : List PV} (hfo : s.ev fo = .p (.fn g cap)) (hg : guardA all s { dst := dst, op := .call { callee := .value fo, args := args, argTypes := ts }, type := ty, pos := pos, after := aft, guard := gd } = some true)
    (hargs : argsM s.H ks (args.toList.map s.ev ++ cap.map .p) avs) (hle : LeH ks s.H ks H0) (hnd : ks.Nodup) (hks : ks.all (fun k => decide (k < s.H.length)) = true) (hsc : scM r H0 H1 = true) (hd : dstOk s dst)
    (h : Runs P false all rest K (({ s with H := putM s.H ks (H1.map (Blk.ren (ks ++ List.range' s.H.length (H1.length - ks.length)))) } : St).put dst (Go.Pv.ren (ks ++ List.range' s.H.length (H1.length - ks.length)) r))) :
    Runs P false all ({ dst := dst, op := .call { callee := .value fo, args := args, argTypes := ts }, type := ty, pos := pos, after := aft, guard := gd } :: rest) K s := by
  obtain ⟨s', hr, hK⟩ := h
  exact ⟨s', .cons (.op s _ _ hg (dstOk_spec hd) (call_doesM rfl hfo hc hargs hle hnd hks hsc) fun h => by cases h) hr, hK⟩

/-- A block is frozen before an operation. -/
theorem runs_freeze {all : Array Oper} {o : Oper} {rest : List Oper} {K : St → Prop} (k : Nat) {c : List AV} {ps : List PV} (hk : hget s.H k = .own c) (hc : allP c = some ps) (hgu : o.guard = none) (h : Runs P false all (o :: rest) K { s with H := hset s.H k (.fro ps) }) : Runs P false all (o :: rest) K s := by
  obtain ⟨s', hr, hK⟩ := h
  refine ⟨s', ?_, hK⟩
  cases hr with
  | cons h1 hr =>
    refine .cons ?_ hr
    cases h1 with
    | skip hg hd => unfold guardA at hg; rw [hgu] at hg; cases hg
    | op av H' hg hd h2 hl => exact .op s av H' hg hd (fun C m a w K Q R hK => h2 C m a w K Q (R.freeze hk hc) hK) fun h => by cases h

/-! ### How much stands in a map -/

open Classical in
noncomputable def mpLen (d : Int → Bool) : Nat := if h : ∃ l : List Int, l.Nodup ∧ ∀ z, z ∈ l ↔ d z = true then h.choose.length else 0

theorem nodup_le : ∀ {l l' : List Int}, l.Nodup → (∀ z ∈ l, z ∈ l') → l.length ≤ l'.length
  | [], _, _, _ => Nat.zero_le _
  | x :: l, l', hn, h => by
    have hx := h x (by simp)
    have h1 := nodup_le (l := l) (l' := l'.erase x) (List.nodup_cons.1 hn).2 fun z hz => (List.mem_erase_of_ne (fun e => (List.nodup_cons.1 hn).1 (by rw [← e]; exact hz))).2 (h z (by simp [hz]))
    rw [List.length_erase_of_mem hx] at h1
    have := List.length_pos_of_mem hx
    simp only [List.length_cons]
    omega

theorem mpLen_eq {d : Int → Bool} {l : List Int} (h1 : l.Nodup) (h2 : ∀ z, z ∈ l ↔ d z = true) : mpLen d = l.length := by
  have h : ∃ l : List Int, l.Nodup ∧ ∀ z, z ∈ l ↔ d z = true := ⟨l, h1, h2⟩
  unfold mpLen
  rw [dif_pos h]
  obtain ⟨a1, a2⟩ := h.choose_spec
  refine Nat.le_antisymm (nodup_le a1 fun z hz => (h2 z).2 ((a2 z).1 hz)) (nodup_le h1 fun z hz => (a2 z).2 ((h2 z).1 hz))

theorem mlk_some {kk : IntKind} {z : Int} : ∀ {es : List MapEntry} {x : Value}, mlk kk z es = some x → ∃ e ∈ es, e.key = .int kk z
  | [], _, h => by cases h
  | e :: es, x, h => by
    by_cases hk : e.key = .int kk z
    · exact ⟨e, by simp, hk⟩
    · rw [mlk_neg _ hk] at h
      obtain ⟨e', h1, h2⟩ := mlk_some h
      exact ⟨e', by simp [h1], h2⟩

theorem mlk_ne {kk : IntKind} {z : Int} : ∀ {es : List MapEntry}, (∃ e ∈ es, e.key = .int kk z) → mlk kk z es ≠ none
  | [], h => by obtain ⟨e, h1, _⟩ := h; cases h1
  | e :: es, h => by
    by_cases hk : e.key = .int kk z
    · rw [mlk_pos _ hk]; simp
    · rw [mlk_neg _ hk]
      obtain ⟨e', h1, h2⟩ := h
      rcases List.mem_cons.1 h1 with rfl | h1
      · exact absurd h2 hk
      · exact mlk_ne ⟨e', h1, h2⟩

def keyInt : Value → Int
  | .int _ z => z
  | _ => 0

theorem mpLen_entries {kk : IntKind} {d : Int → Bool} {es : List MapEntry} {vs : Int → Value} {clk : Nat} (h1 : MpK kk clk es) (h2 : ∀ z, d z = false → mlk kk z es = none) (h3 : ∀ z, d z = true → mlk kk z es = some (vs z)) : mpLen d = es.length := by
  have hk : ∀ e ∈ es, e.key = .int kk (keyInt e.key) := fun e he => by
    obtain ⟨z, hz⟩ := h1.1 e he
    rw [hz]; rfl
  have e1 : es.map MapEntry.key = (es.map fun e => keyInt e.key).map (Value.int kk) := by
    rw [List.map_map]
    exact List.map_congr_left fun e he => hk e he
  have hnd : (es.map fun e => keyInt e.key).Nodup := by
    have := h1.2.1
    rw [e1] at this
    exact List.Pairwise.imp (fun h e => h (by rw [e])) (List.pairwise_map.1 this)
  rw [mpLen_eq hnd fun z => ?_, List.length_map]
  rw [List.mem_map]
  constructor
  · rintro ⟨e, he, rfl⟩
    cases hd : d (keyInt e.key) with
    | true => rfl
    | false => exact absurd (h2 _ hd) (mlk_ne ⟨e, he, hk e he⟩)
  · intro hd
    obtain ⟨e, he, hz⟩ := mlk_some (h3 z hd)
    exact ⟨e, he, by rw [hz]; rfl⟩

theorem mpLen_does (hT : ∀ t ti, T t = some ti → tiOf P t = some ti) {o : Oper} {t : TypeId} {x : Operand} (ho : o.op = .call { callee := .builtin .len, args := #[x], argTypes := #[t] }) {ti : TI} (ht : T t = some ti) {kt et : TypeId} {zo : Option Value} (hkind : ti.kind = .map kt et zo)
    {k : Nat} {kk : IntKind} {d : Int → Bool} {v : Int → PV} (hx : s.ev x = .mptr k) (hg : hget s.H k = .mp kk d v) : DoesW P o s (.p (.int .i64 (mpLen d : Int))) s.H := by
  intro C m a w K Q R hK
  obtain ⟨dst, op, type, pos, after, guard⟩ := o
  simp only at ho
  subst ho
  have hxe := R.ev x
  rw [hx] at hxe
  generalize hxv : a.eval x = xv at hxe
  cases hxe with
  | mptr _ _ hkl hp =>
    obtain ⟨l, hml, rfl⟩ := hp
    obtain ⟨l', ar, clk, vs, a1, a2, a3, a4, a5, a6, a7⟩ := R.mp.1 k kk d v (hget_some hg (by simp))
    rw [hml] at a1; cases a1
    have hu := (ti_map (hT _ _ ht) hkind).1
    have hlen : (mpLen d : Int) = (ar.size : Int) := by rw [mpLen_entries a4 a5 a6]; simp
    have hrun : (execOp a.eval { dst := dst, op := .call { callee := .builtin .len, args := #[x], argTypes := #[t] }, type := type, pos := pos, after := after, guard := guard }).run P w = .ok (.value (.int .i64 (ar.size : Int))) w := by
      simp [BigFrame.execOp_builtin, BigFrame.builtin_len, Builtin.len_, hxv, run_underlying hu, goInt, MapKept.run_getObj_map a3]
    unfold Oper.wp
    rw [hrun]
    refine hK _ m w R (.p _ _ ?_)
    rw [hlen]
    exact .int _ _

theorem runs_mapLen (hT : ∀ t ti, T t = some ti → tiOf P t = some ti) {all : Array Oper} {rest : List Oper} {K : St → Prop} {dst : Option Tmp} {ty : TypeId} {pos : String} {aft : Array Edge} {gd : Option (Nat × Bool)} {x : Operand} {t : TypeId} {ti : TI} (ht : T t = some ti) {kt et : TypeId} {zo : Option Value} (hkind : ti.kind = .map kt et zo)
    {k : Nat} {kk : IntKind} {d : Int → Bool} {v : Int → PV} (hx : s.ev x = .mptr k) (hgt : hget s.H k = .mp kk d v) (hg : guardA all s { dst := dst, op := .call { callee := .builtin .len, args := #[x], argTypes := #[t] }, type := ty, pos := pos, after := aft, guard := gd } = some true) (hd : dstOk s dst)
    (h : Runs P false all rest K (s.put dst (.p (.int .i64 (mpLen d : Int))))) : Runs P false all ({ dst := dst, op := .call { callee := .builtin .len, args := #[x], argTypes := #[t] }, type := ty, pos := pos, after := aft, guard := gd } :: rest) K s := by
  obtain ⟨s', hr, hK⟩ := h
  exact ⟨s', .cons (.op s _ _ hg (dstOk_spec hd) (mpLen_does hT rfl ht hkind hx hgt) fun h => by cases h) hr, hK⟩

/-- The same where the order is drawn. -/
theorem runs2_mapLen (hT : ∀ t ti, T t = some ti → tiOf P t = some ti) {all : Array Oper} {rest : List Oper} {K : St → List I2 → Prop} {acc : List I2} {dst : Option Tmp} {ty : TypeId} {pos : String} {aft : Array Edge} {gd : Option (Nat × Bool)} {x : Operand} {t : TypeId} {ti : TI} (ht : T t = some ti) {kt et : TypeId} {zo : Option Value} (hkind : ti.kind = .map kt et zo)
    {k : Nat} {kk : IntKind} {d : Int → Bool} {v : Int → PV} (hx : s.ev x = .mptr k) (hgt : hget s.H k = .mp kk d v) (hg : guardA all s { dst := dst, op := .call { callee := .builtin .len, args := #[x], argTypes := #[t] }, type := ty, pos := pos, after := aft, guard := gd } = some true) (hd : dstOk s dst)
    (h : Runs2 P all rest K (s.put dst (.p (.int .i64 (mpLen d : Int)))) (acc ++ [⟨.ld k, .p (.int .i64 (mpLen d : Int)), .dead, false⟩])) : Runs2 P all ({ dst := dst, op := .call { callee := .builtin .len, args := #[x], argTypes := #[t] }, type := ty, pos := pos, after := aft, guard := gd } :: rest) K s acc := by
  obtain ⟨s', xs, hr, hK⟩ := h
  have hkl : k < s.H.length := (List.getElem?_eq_some_iff.1 (hget_some hgt (by simp))).1
  refine ⟨s', ⟨.ld k, .p (.int .i64 (mpLen d : Int)), .dead, false⟩ :: xs, .op hg (dstOk_spec hd) ⟨hkl, fun s2 hn ha hH => ?_⟩ (fun h => by cases h) hr, by rw [List.append_assoc] at hK; exact hK⟩
  refine mpLen_does (s := s2) hT rfl ht hkind (k := k) (kk := kk) (d := d) (v := v) ?_ (by rw [hH]; exact hgt)
  rw [← hx]
  exact ha x (by simp [Op.operands, Call.operands])

end

end Go.Pv

/-
  Steps of a region beside those that are evaluated: literal rows as one's own, entries of literal maps. Conditions: none; a library text.
-/
set_option linter.all false

namespace Go.Pv
open Go.RowKit
section
variable {P : Program} {T : TypeId → Option TI} {s : St}
theorem appendNn0_does (hT : ∀ t ti, T t = some ti → tiOf P t = some ti) {o : Oper} {t : TypeId} {x y : Operand} (ho : o.op = .call { callee := .builtin .append, args := #[x, y], argTypes := #[t, t] }) {ti te : TI} (ht : T t = some ti) {e : TypeId} (hk : ti.kind = .slice e) (hte : T e = some te) (hsz : te.size = 1)
    {l : List PV} {k lo : Nat} (hx : s.ev x = .p (.nn l)) (hy : s.ev y = .sl k lo 0) : DoesW P o s (.p (.nn l)) s.H := by
  intro C m a w K Q R hK
  obtain ⟨dst, op, type, pos, after, guard⟩ := o
  simp only at ho
  subst ho
  have hu := ti_slice (hT _ _ ht) hk
  obtain ⟨i, d, z, h1, h2, h3, h4, h5, h6, h7, h8⟩ := tiOf_parts (hT _ _ hte)
  have h := R.ev x
  rw [hx] at h
  have hl := h.p_inv
  obtain ⟨ad, hv⟩ : ∃ ad, a.eval x = .slice (some ad) l.length l.length := by
    generalize a.eval x = v at hl
    rcases hl.nn_inv with ⟨rfl, ad, rfl⟩ | ⟨b, off, sz, vs, rfl, _⟩
    · exact ⟨ad, rfl⟩
    · exact ⟨_, rfl⟩
  have hy' := R.ev y
  rw [hy] at hy'
  obtain ⟨ad2, cap2, hv2⟩ : ∃ ad2 cap2, a.eval y = .slice ad2 0 cap2 := by
    generalize a.eval y = v at hy'
    cases hy' with
    | sl _ _ _ _ _ hs =>
      rcases hs with ⟨_, ad, rfl⟩ | ⟨l', cap, _, rfl, _⟩
      · exact ⟨_, _, rfl⟩
      · exact ⟨_, _, rfl⟩
  have hr := append_nothing (P := P) (w := w) type hu h1 (by rw [h4, hsz]) (ad := some ad) (n := l.length) (cap := l.length) (x := .slice ad2 0 cap2) src_nil (Nat.le_refl _)
  have hrun : (execOp a.eval { dst := dst, op := .call { callee := .builtin .append, args := #[x, y], argTypes := #[t, t] }, type := type, pos := pos, after := after, guard := guard }).run P w = .ok (.value (.slice (some ad) l.length l.length)) w := by
    simp only [BigFrame.execOp_builtin, BigFrame.builtin_append, List.map_toArray, List.map_cons, List.map_nil, hv, hv2, Sem.run_bind, hr, Result.andThen_ok, Sem.run_pure]
  unfold Oper.wp
  rw [hrun]
  rw [hv] at hl
  exact hK _ m w R (.p _ _ hl)
theorem appendNn0_loc (hT : ∀ t ti, T t = some ti → tiOf P t = some ti) {o : Oper} {t : TypeId} {x y : Operand} (ho : o.op = .call { callee := .builtin .append, args := #[x, y], argTypes := #[t, t] }) {ti te : TI} (ht : T t = some ti) {e : TypeId} (hk : ti.kind = .slice e) (hte : T e = some te) (hsz : te.size = 1)
    {l : List PV} {k lo : Nat} (hx : s.ev x = .p (.nn l)) (hy : s.ev y = .sl k lo 0) : Loc1 P o s (.p (.nn l)) s.H := by
  have hx2 : x ∈ o.op.operands := by rw [ho]; simp [Op.operands, Call.operands]
  have hy2 : y ∈ o.op.operands := by rw [ho]; simp [Op.operands, Call.operands]
  refine ⟨fun s2 hn ha hH => ?_, fun hf => by simp [ho, isT] at hf, fun hf => by simp [ho, isW] at hf⟩
  rw [← hH]
  exact appendNn0_does hT ho ht hk hte hsz ((ha _ hx2).trans hx) ((ha _ hy2).trans hy)
theorem runs_opD {draw : Bool} {all : Array Oper} {rest : List Oper} {K : St → Prop} {o : Oper} {av : AV} {H' : Heap} (h1 : Loc1 P o s av H') (hg : guardA all s o = some true) (hd : dstOk s o.dst)
    (h : Runs P draw all rest K (({ s with H := H' } : St).put o.dst av)) : Runs P draw all (o :: rest) K s := by
  obtain ⟨s', hr, hK⟩ := h
  exact ⟨s', .cons (.op s _ _ hg (dstOk_spec hd) (h1.here s rfl (fun _ _ => rfl) rfl) fun _ => h1) hr, hK⟩
theorem runs_at {draw : Bool} {all : Array Oper} {K : St → Prop} (n : Nat) {l : List Oper} (h : Runs P draw all (l.take n) (fun s' => Runs P draw all (l.drop n) K s') s) : Runs P draw all l K s := by
  have gen : ∀ (l1 l2 : List Oper) (s s1 s2 : St), Run1 P draw all l1 s s1 → Run1 P draw all l2 s1 s2 → Run1 P draw all (l1 ++ l2) s s2 := by
    intro l1
    induction l1 with
    | nil => intro l2 s s1 s2 h1 h2; cases h1; exact h2
    | cons o r ih => intro l2 s s1 s2 h1 h2; cases h1 with | cons a b => exact .cons a (ih l2 _ _ _ b h2)
  obtain ⟨s1, h1, s2, h2, hK⟩ := h
  exact ⟨s2, by have := gen _ _ _ _ _ h1 h2; rwa [List.take_append_drop] at this, hK⟩

/-- A literal row, as a block of the call's own. -/
theorem buildOwn_does (hT : ∀ t ti, T t = some ti → tiOf P t = some ti) {o : Oper} {t : TypeId} {n : Nat} {parts : Array (Nat × Operand)} (ho : o.op = .buildSlice t n parts) {ti te : TI} (ht : T t = some ti) {e : TypeId} (hk : ti.kind = .slice e) (hte : T e = some te) (hsz : te.size = 1) (hzl : te.zero.length = 1)
    {p : Prop} {l : List PV} (hp : partsA 1 0 (parts.toList.map fun q => (q.1, s.ev q.2)) = some (p, l)) (hvc : p) (hl : l.length = n) (hn : n ≤ 16777216) (hone : l.all PV.one = true) : DoesW P o s (.sl s.H.length 0 n) (s.H ++ [.own (opl l)]) := by
  intro C m a w K Q R hK
  have hu := ti_slice (hT _ _ ht) hk
  obtain ⟨i, d, z, h1, h2, h3, h4, h5, h6, h7, h8⟩ := tiOf_parts (hT _ _ hte)
  have key : ∀ z0 : Array Value, ∃ cs', (∀ x ∈ l, x.cells.length = 1) ∧ Instr.fill (fun i => some (i * 1, 1)) ((Array.range (n * 1)).map (z0[· % z0.size]!)) (parts.toList.map fun q => (q.1, a.eval q.2)) = some cs' ∧ cs'.size = n * 1 ∧
      ∀ c (h : c < (flat l).length), Reads (OK C m s.H w) w (flat l)[c] (cs'.getD c undef) := by
    intro z0
    obtain ⟨k1, cs', k2, k3, _, k5⟩ := partsA_run R 1 parts.toList 0 (cs := (Array.range (n * 1)).map (z0[· % z0.size]!)) hp hvc (by simp [hl])
    exact ⟨cs', k1, k2, by rw [k3]; simp, fun c hc => by have := k5 c hc; rwa [Nat.zero_mul, Nat.zero_add] at this⟩
  obtain ⟨cs', k1, k2, k3, k5⟩ := key (if n * 1 = 0 then #[] else z.cells)
  have hss := ti_size (hT _ _ hte) w
  rw [hsz] at hss
  have hfl0 := flat_length_eq 1 l k1
  have hfl : flat l = l := flat_all_one hone
  have hrun : (execOp a.eval o).run P w = .ok (.value (.slice (some ⟨w.heap.size, 0, none⟩) n n)) (w.alloc (.cells cs' e)) := by
    have hpt : (parts.map fun q => (q.1, a.eval q.2)).toList = parts.toList.map fun q => (q.1, a.eval q.2) := by simp
    have hne : ¬ (n * 1 > 2 ^ 24) := by omega
    by_cases hz : n * 1 = 0
    · rw [if_pos hz] at k2
      simp only [execOp, ho, Instr.buildSlice, Sem.run_bind, run_underlying hu, Result.andThen_ok, hss, Sem.run_ite, hz, if_true, Sem.run_pure, newRow] at k2 ⊢
      simp only [hpt, k2, Sem.run_bind, run_newObj, Result.andThen_ok, Sem.run_pure]
      rfl
    · rw [if_neg hz] at k2
      simp only [execOp, ho, Instr.buildSlice, Sem.run_bind, run_underlying hu, Result.andThen_ok, hss, Sem.run_ite, hne, if_false, hz, zeroValue, typeInfo, run_program, h1, h3, Sem.run_pure, newRow] at k2 ⊢
      simp only [hpt, k2, Sem.run_bind, run_newObj, Result.andThen_ok, Sem.run_pure]
      rfl
  have hrel := R.newBlk (below_alloc _) (cur := cs') (e := e) (heap_alloc_new w _) (by rw [k3]; unfold maxLen; omega) (c := opl l) (by rw [opl_length, k3]; omega) (by
    intro j hj
    rw [opl_length] at hj
    have := k5 j (by rw [hfl]; exact hj)
    simp only [hfl] at this
    simp only [opl, List.getElem_map]
    exact .p _ _ this)
  unfold Oper.wp
  rw [hrun]
  exact hK _ _ _ hrel (.sl _ _ _ _ (by simp) <| .inr ⟨⟨w.heap.size, 0, cs'.size⟩, n, by simp [mput], by simp, Nat.le_refl _, by simp only; omega⟩)

/-- An entry of a literal map. -/
theorem insert_does (hT : ∀ t ti, T t = some ti → tiOf P t = some ti) {o : Oper} {t : TypeId} {x y z : Operand} (ho : o.op = .insert t x y z) {ti : TI} (ht : T t = some ti) {r : OV} (h : mapUpdateA T ti s.H (s.ev x) (s.ev y) (s.ev z) = some r) (hvc : r.vc) : DoesW P o s r.av r.H := by
  intro C m a w K Q R hK
  obtain ⟨v, w', m', hy, R', hv⟩ := mapUpdateA_does hT R (o := { o with op := .mapUpdate t x y z }) rfl ht h hvc
  have := hK v m' w' R' hv
  have e : execOp a.eval o = execOp a.eval { o with op := .mapUpdate t x y z } := by
    simp only [execOp, ho]
  rcases hy with hr | ⟨hr, rfl⟩
  · unfold Oper.wp; rw [e, hr]; exact this
  · unfold Oper.wp; rw [e, hr]; exact this
section
variable {C : Ctx} {m : Map} {tmps : Array Value} {w : World}
theorem call_doesMc {o : Oper} {fo : Operand} {args : Array Operand} {ts : Array TypeId} (ho : o.op = .call { callee := .value fo, args := args, argTypes := ts }) {g : FuncId} {cap : List AV} (hfo : s.ev fo = .cl g cap) {ks : List Nat} {avs : List AV} {H0 H1 : Heap} {r : AV}
    (hc : FnM P g avs H0 r H1) (hargs : argsM s.H ks (args.toList.map s.ev ++ cap) avs) (hle : LeH ks s.H ks H0) (hnd : ks.Nodup) (hks : ks.all (fun k => decide (k < s.H.length)) = true) (hsc : scM r H0 H1 = true) :
    DoesW P o s (Go.Pv.ren (ks ++ List.range' s.H.length (H1.length - ks.length)) r) (putM s.H ks (H1.map (Blk.ren (ks ++ List.range' s.H.length (H1.length - ks.length))))) := by
  intro C m a w K Q R hK
  have hks' : ∀ k ∈ ks, k < s.H.length := fun k hk => by simpa using (List.all_eq_true.1 hks) k hk
  have hfv := R.ev fo
  rw [hfo] at hfv
  generalize hfe : a.eval fo = fv at hfv
  cases hfv with
  | cl _ _ vs hcl hcr =>
    obtain ⟨⟨fn, hfn, hnm, hbd⟩, hcalls⟩ := hc
    have hrun : (execOp a.eval o).run P w = .ok (.enter g (args.map a.eval ++ vs)) w := by
      have hnm' : ¬ fn.name = "runtime.NumGoroutine" := by simpa using hnm
      have hbd' : ¬ fn.body = none := by intro e; rw [e] at hbd; simp at hbd
      simp [execOp, ho, resolve, hfe, Deferred.ofValue, invoke, callFunc, hfn, hnm', hbd']
    unfold Oper.wp
    rw [hrun]
    simp only [Oper.upon]
    obtain ⟨g1, g2⟩ := hle.get
    have ho1 : ∀ b, OK C m s.H w b → OK (subC C m s.H ks H0 w) (mren m ks) H0 w b := by
      refine fun b h => ⟨.inl h, h.2.1, fun k c l hk hl => ?_⟩
      obtain ⟨k', d, a1, a2, _⟩ := LeH.own g2 k c hk
      simp only [mren, a1, Option.bind_some] at hl
      exact h.2.2 k' _ l a2 hl
    obtain ⟨e1, e2⟩ := argsM_val R (rd' := Reads (OK (subC C m s.H ks H0 w) (mren m ks) H0 w) w) (H0 := H0) (fun p v h => h.mono ho1) g1.symm _ avs (fun i => (args.map a.eval ++ vs).getD i undef) hargs fun i hi => by
      simp only [List.length_append, List.length_map, Array.length_toList] at hi
      by_cases hip : i < args.size
      · rw [List.getElem_append_left (by simpa using hip)]
        simp only [Array.getD_eq_getD_getElem?]
        rw [Array.getElem?_append_left (by simpa using hip)]
        have := R.ev args[i]
        simpa [Array.getElem?_eq_getElem hip] using this
      · rw [List.getElem_append_right (by simp; omega)]
        simp only [Array.getD_eq_getD_getElem?]
        rw [Array.getElem?_append_right (by simp; omega)]
        simp only [List.length_map, Array.length_toList, Array.size_map]
        have := hcr (i - args.size) (by omega)
        rw [Array.getD_eq_getD_getElem?] at this
        exact this
    have hsz : (args.map a.eval ++ vs).size = avs.length := by
      rw [e1]; simp; omega
    have s5 : H0.all notAnc = true := by
      unfold scM at hsc
      rw [Bool.and_eq_true] at hsc
      exact hsc.2
    have R0 : Rel (subC C m s.H ks H0 w) (mren m ks) ⟨avs.length, entA 0 avs, H0⟩ (args.map a.eval ++ vs) w := by
      refine R.weakenC (s1 := ⟨avs.length, entA 0 avs, H0⟩) hsz hnd hle ho1 (BelowP.refl _ _) (fun b h => .inl h) (fun k b l h hw hl _ => .inr ⟨k, b, l, h, hw, hl, rfl⟩) (fun k i j h => ?_) fun t => ?_
      · exact absurd rfl (notAnc_spec ((List.all_eq_true.1 s5) _ (List.mem_of_getElem? h)) i j)
      · unfold St.get
        simp only
        rw [entA_lk, if_pos (Nat.zero_le _), Nat.sub_zero]
        by_cases ht : t < avs.length
        · have := e2 t ht
          simpa [List.getD, List.getElem?_eq_getElem ht] using this
        · rw [List.getD_eq_getElem?_getD, List.getElem?_eq_none (by omega)]
          exact .dead _
    have R0' := R0.addAnc (n := H0.length) (Nat.le_refl _) fun i _ => rfl
    refine (hcalls _ _ w _ R0').mono fun e w' ⟨v, m', he, R1⟩ => ?_
    subst he
    obtain ⟨m2, R2, hv⟩ := R.joinM hle hks' R1 hsc
    exact hK v m2 w' R2 hv

/-- THE WORD OF THE WALK: a call of a function with captured values that is lent blocks. -/
theorem runs_callMc {all : Array Oper} {rest : List Oper} {K : St → Prop} {dst : Option Tmp} {ty : TypeId} {pos : String} {aft : Array Edge} {gd : Option (Nat × Bool)} {fo : Operand} {args : Array Operand} {ts : Array TypeId} {g : FuncId} {avs : List AV} {H0 H1 : Heap} {r : AV} (ks : List Nat)
    (hc : FnM P g avs H0 r H1) {cap : List AV} (hfo : s.ev fo = .cl g cap) (hg : guardA all s { dst := dst, op := .call { callee := .value fo, args := args, argTypes := ts }, type := ty, pos := pos, after := aft, guard := gd } = some true)
    (hargs : argsM s.H ks (args.toList.map s.ev ++ cap) avs) (hle : LeH ks s.H ks H0) (hnd : ks.Nodup) (hks : ks.all (fun k => decide (k < s.H.length)) = true) (hsc : scM r H0 H1 = true) (hd : dstOk s dst)
    (h : Runs P false all rest K (({ s with H := putM s.H ks (H1.map (Blk.ren (ks ++ List.range' s.H.length (H1.length - ks.length)))) } : St).put dst (Go.Pv.ren (ks ++ List.range' s.H.length (H1.length - ks.length)) r))) :
    Runs P false all ({ dst := dst, op := .call { callee := .value fo, args := args, argTypes := ts }, type := ty, pos := pos, after := aft, guard := gd } :: rest) K s := by
  obtain ⟨s', hr, hK⟩ := h
  exact ⟨s', .cons (.op s _ _ hg (dstOk_spec hd) (call_doesMc rfl hfo hc hargs hle hnd hks hsc) fun h => by cases h) hr, hK⟩

end
end
/-- A function with captured values, of whatever make. -/
theorem mkCl_does {P : Program} {s : St} {o : Oper} {f : FuncId} {first : Array Operand} {caps : Array Operand} (ho : o.op = .makeFunc (.func f) first caps) (hf : first.isEmpty = true) : DoesW P o s (.cl f (caps.toList.map s.ev)) s.H := by
  intro C m a w K Q R hK
  have hfe : first = #[] := by simpa using hf
  have hrun : (execOp a.eval o).run P w = .ok (.value (.func (.func f) #[] (caps.map a.eval))) w := by
    simp [execOp, ho, hfe, Instr.makeFunc]
  unfold Oper.wp
  rw [hrun]
  refine hK _ m w R (.cl _ _ _ (by simp) fun c hc => ?_)
  have hc' : c < caps.size := by simpa using hc
  have e1 : (caps.map a.eval).getD c undef = a.eval caps[c] := by simp [Array.getD_eq_getD_getElem?, hc']
  have e2 : (caps.toList.map s.ev)[c] = s.ev caps[c] := by simp
  rw [e1, e2]
  exact R.ev _
end Go.Pv

/-
  The library's sort by a comparison, over a row of the caller's own: what it leaves. Conditions: none; a library text.
-/
set_option linter.all false
namespace Go.Pv
open Go.RowKit

theorem below_grow {w w' : World} (h : Below w.heap.size w w') : ∃ q os, w' = Go.Sort.grow (w.drewN q) os := by
  refine ⟨w'.drawn - w.drawn, w'.heap.extract w.heap.size w'.heap.size, ?_⟩
  obtain ⟨h1, h2, h3, h4, h5, h6⟩ := h
  cases w with
  | mk heap tape drawn os output =>
    cases w' with
    | mk heap' tape' drawn' os' output' =>
      simp only at h1 h2 h3 h4 h5 h6
      subst h1 h2 h3
      have hh : heap' = heap ++ heap'.extract heap.size heap'.size := by
        apply Array.ext_getElem?
        intro k
        by_cases hk : k < heap.size
        · rw [Array.getElem?_append_left hk]; exact h5 k hk
        · rw [Array.getElem?_append_right (by omega), Array.getElem?_extract]
          by_cases hk2 : k < heap'.size
          · rw [if_pos (by simp; omega), show heap.size + (k - heap.size) = k by omega]
          · rw [if_neg (by simp; omega), Array.getElem?_eq_none (by omega)]
      have hd : drawn' = drawn + (drawn' - drawn) := by omega
      show World.mk heap' tape' drawn' os' output' = World.mk (heap ++ heap'.extract heap.size heap'.size) tape' (drawn + (drawn' - drawn)) os' output'
      rw [← hh, ← hd]

theorem below_sortWorld {α : Type} [Inhabited α] (enc : α → Value) (w : World) (blk off m : Nat) (dk : Array α) (os : Array Obj) : ∀ b, b ≠ blk → b < w.heap.size → (Go.Proofs.sortWorld enc w blk off m dk os).heap[b]? = w.heap[b]? := by
  intro b hb hs
  unfold Go.Proofs.sortWorld
  rw [Go.Sort.heap_grow_old _ _ (by simpa using hs)]
  simp only [Go.Sort.putRow, Go.Sort.mapBlock, Array.getElem?_modify]
  rw [if_neg (Ne.symm hb)]
  rfl

theorem perm_sorted_unique {lt : PV → PV → Prop} : ∀ (xs ys : List PV), xs.Perm ys → (∀ x ∈ xs, ∀ y ∈ xs, ¬ lt x y → ¬ lt y x → x = y) → xs.Pairwise (fun x y => ¬ lt y x) → ys.Pairwise (fun x y => ¬ lt y x) → xs = ys
  | [], ys, h, _, _, _ => by simpa using h.symm.eq_nil.symm
  | x :: r, [], h, _, _, _ => by simpa using h.eq_nil
  | x :: r, y :: s, h, ha, h1, h2 => by
    have hxy : x = y := by
      have hx : x ∈ y :: s := h.mem_iff.1 (by simp)
      have hy : y ∈ x :: r := h.mem_iff.2 (by simp)
      rcases List.mem_cons.1 hx with hx | hx
      · exact hx
      · rcases List.mem_cons.1 hy with hy' | hy'
        · exact hy'.symm
        · have a1 := (List.pairwise_cons.1 h1).1 y hy'
          have a2 := (List.pairwise_cons.1 h2).1 x hx
          exact ha x (by simp) y hy a2 a1
    subst hxy
    rw [perm_sorted_unique r s (List.Perm.cons_inv h) (fun a ha' b hb' => ha a (by simp [ha']) b (by simp [hb'])) (List.pairwise_cons.1 h1).2 (List.pairwise_cons.1 h2).2]

section
variable {P : Program} {ρ : Go.Shelf.Ren}

/-- slices.SortFunc: a row of the caller's own; a pure comparison that parts whatever two things; behind it the row holds the one list that rises. -/
theorem sort_m (L : Go.Proofs.SlLaysF.n6 P ρ) {g : FuncId} {cap : List PV} (xs ys : List PV) (cf : PV → PV → Int) (hne : xs ≠ []) (hone : ∀ x ∈ xs, x.one = true)
    (irr : ∀ x ∈ xs, ¬ cf x x < 0) (tr : ∀ x ∈ xs, ∀ y ∈ xs, ∀ z ∈ xs, cf x y < 0 → cf y z < 0 → cf x z < 0) (ntr : ∀ x ∈ xs, ∀ y ∈ xs, ∀ z ∈ xs, ¬ cf x y < 0 → ¬ cf y z < 0 → ¬ cf x z < 0)
    (anti : ∀ x ∈ xs, ∀ y ∈ xs, ¬ cf x y < 0 → ¬ cf y x < 0 → x = y) (hc : ∀ x ∈ xs, ∀ y ∈ xs, FnC P g (x :: y :: cap) (.int .i64 (cf x y)))
    (hperm : xs.Perm ys) (hs : ys.Pairwise fun x y => ¬ cf y x < 0) (hlen : xs.length < 4611686018427387904) :
    FnM P (ρ.f 6) [.sl 0 0 xs.length, .p (.fn g cap)] [.own (opl xs)] (.p (.tup [])) [.own (opl ys)] := by
  have hpos : 0 < xs.length := List.length_pos_iff.2 hne
  refine ⟨?_, fun C m w vals R => ?_⟩
  · obtain ⟨nm, h1, h2⟩ := L.f6
    exact ⟨_, h2, h1, rfl⟩
  have hsz : vals.size = 2 := R.size
  have s0 := R.slot 0
  have s1 := R.slot 1
  simp only [St.get, entA, lk, BEq.rfl, cond_true, show ((0 : Nat) == 1) = false from rfl, cond_false] at s0 s1
  generalize hv0 : vals.getD 0 undef = v0 at s0
  generalize hv1 : vals.getD 1 undef = v1 at s1
  have hvals : vals = #[v0, v1] := by
    apply Array.ext
    · simpa using hsz
    · intro i h1 h2
      simp only [Array.getD_eq_getD_getElem?] at hv0 hv1
      match i, h2 with
      | 0, _ => rw [Array.getElem?_eq_getElem h1] at hv0; simpa using hv0
      | 1, _ => rw [Array.getElem?_eq_getElem h1] at hv1; simpa using hv1
  subst hvals
  have s1 := s1.p_inv
  cases s1 with
  | fn _ _ vs hcl hcr =>
  cases s0 with
  | sl _ _ _ _ hk0 h0 =>
  rcases h0 with ⟨h0, _⟩ | ⟨l, cp, hm, rfl, hle, hlo⟩
  · omega
  rcases R.blk 0 (opl xs) rfl with ⟨hx, _⟩ | ⟨l', cur, e, hm', hB, hg, hcs, hmx, hol, hcell⟩
  · exact absurd (show xs = [] by simpa [opl] using hx) hne
  rw [hm] at hm'; cases hm'
  rw [opl_length] at hol
  generalize hok : OK C m ([.own (opl xs)] ++ ancs 0 [Blk.own (opl xs)].length) w = ok at *
  have hokne : ∀ b, ok b → b ≠ l.g := fun b hb => by
    subst hok
    exact fun e => hb.2.2 0 _ l rfl hm e.symm
  have hoklt : ∀ b, ok b → b < w.heap.size := fun b hb => by subst hok; exact hb.2.1
  have hblk : l.g < w.heap.size := (Array.getElem?_eq_some_iff.1 hg).1
  have hrd : ∀ j (h : j < xs.length), Reads ok w xs[j] (cur.getD (l.o + j) undef) := fun j h => by
    have := hcell j (by rw [opl_length]; exact h)
    simp only [opl, List.getElem_map] at this
    subst hok
    exact this.p_inv
  let α := {p : PV × Value // p.1 ∈ xs ∧ Reads ok w p.1 p.2}
  have inh : α := ⟨(xs[0], cur.getD (l.o + 0) undef), List.getElem_mem hpos, hrd 0 hpos⟩
  letI : Inhabited α := ⟨inh⟩
  let enc : α → Value := fun x => x.1.2
  let cf' : α → α → Int := fun x y => cf x.1.1 y.1.1
  let d : Array α := Array.ofFn fun j : Fin xs.length => (⟨(xs[j], cur.getD (l.o + j) undef), List.getElem_mem j.2, hrd j j.2⟩ : α)
  have hd : d.size = xs.length := by simp [d]
  have hdj : ∀ j (h : j < xs.length), d[j]! = (⟨(xs[j], cur.getD (l.o + j) undef), List.getElem_mem h, hrd j h⟩ : α) := fun j h => by
    rw [getElem!_pos d j (by omega)]
    simp [d]
  have h1 : Go.Proofs.OneCell enc := fun x => (Reads.one x.2.2 (hone _ x.2.1)).1
  have hO : Go.Sort.SWO (Go.Proofs.ltOf cf') := by
    refine ⟨fun x => ?_, fun x y z h1 h2 => ?_, fun x y z h1 h2 => ?_⟩
    · exact decide_eq_false (irr _ x.2.1)
    · exact decide_eq_true (tr _ x.2.1 _ y.2.1 _ z.2.1 (of_decide_eq_true h1) (of_decide_eq_true h2))
    · exact decide_eq_false (ntr _ x.2.1 _ y.2.1 _ z.2.1 (of_decide_eq_false h1) (of_decide_eq_false h2))
  have hH : Go.Sort.Holds enc w l.g (l.o + 0) d := fun j hj => by
    rw [hd] at hj
    have hjc : l.o + j < cur.size := by omega
    refine ⟨?_, ?_⟩
    · rw [hdj j hj]
      show w.cell? ⟨l.g, l.o + 0 + j, none⟩ = some (cur.getD (l.o + j) undef)
      simp only [World.cell?, hg, Nat.add_zero]
      simp [Array.getD_eq_getD_getElem?, Array.getElem?_eq_getElem hjc]
    · simp [World.frozen?, hg]
  have eg : ∀ args w, (callFunc g args).run P w = .ok (.enter g args) w := by
    obtain ⟨fn, f1, f2, f3⟩ := (hc _ (List.getElem_mem hpos) _ (List.getElem_mem hpos)).1
    obtain ⟨c, hcb⟩ := Option.ne_none_iff_exists'.1 (show fn.body ≠ none by intro e; rw [e] at f3; simp at f3)
    exact Go.Proofs.enters_of f1 f2 hcb
  have hcmp : Go.Proofs.CmpLays1 P g vs enc cf' l.g (l.o + 0) d.size w := fun m1 os dk hs x y => by
    have hheap : ∀ b, ok b → (Go.Proofs.sortWorld enc w l.g (l.o + 0) m1 dk os).heap[b]? = w.heap[b]? := fun b hb => below_sortWorld enc w l.g _ m1 dk os b (hokne b hb) (hoklt b hb)
    have hsw : w.heap.size ≤ (Go.Proofs.sortWorld enc w l.g (l.o + 0) m1 dk os).heap.size := by simp [Go.Proofs.sortWorld]
    refine ((hc _ x.2.1 _ y.2.1).2 ok _ (#[enc x, enc y] ++ vs) ⟨fun b hb => Nat.lt_of_lt_of_le (hoklt b hb) hsw, fun gg ll hgg => ?_⟩ (by simp [hcl]; omega) fun i hi => ?_).mono fun e' w2 ⟨v, he, hbl, hv⟩ => ?_
    · have := R.laid gg ll hgg
      rw [hok] at this
      exact this.ext (fun _ h => h) hheap
    · match i, hi with
      | 0, _ =>
        have e0 : (#[enc x, enc y] ++ vs).getD 0 undef = enc x := by simp [Array.getD_eq_getD_getElem?, Array.getElem?_append]
        rw [e0]
        exact x.2.2.ext (fun _ h => h) hheap
      | 1, _ =>
        have e0 : (#[enc x, enc y] ++ vs).getD 1 undef = enc y := by simp [Array.getD_eq_getD_getElem?, Array.getElem?_append]
        rw [e0]
        exact y.2.2.ext (fun _ h => h) hheap
      | i + 2, hi =>
        have hi' : i < cap.length := by simpa using hi
        have e2 : (#[enc x, enc y] ++ vs).getD (i + 2) undef = vs.getD i undef := by
          simp only [Array.getD_eq_getD_getElem?]
          rw [Array.getElem?_append_right (by simp)]
          simp
        rw [e2]
        exact (hcr i hi').ext (fun _ h => h) hheap
    · subst he
      cases hv
      exact ⟨rfl, below_grow hbl⟩
  have hcall := Go.Proofs.Any.slices_SortFunc L enc h1 cf' hO g vs l.g (l.o + 0) cp d w eg hcmp hH hblk (by omega)
  rw [hd] at hcall
  refine hcall.mono fun e2 w2 ⟨he, d', n, os, hp, hso, hw⟩ => ?_
  subst he
  refine ⟨.tuple #[], m, rfl, ?_⟩
  have hs' : d'.size = xs.length := by rw [hp.1, hd]
  have hdl : d.toList.map (fun x => x.1.1) = xs := by
    apply List.ext_getElem
    · simp [d]
    · intro i h1 h2
      simp [d]
  have hperm2 : (d'.toList.map fun x => x.1.1).Perm xs := by
    have := hp.2.2
    rw [← hd, Array.extract_size] at this
    have h3 : d'.extract 0 d.size = d' := by rw [hd, ← hs', Array.extract_size]
    rw [h3] at this
    have h4 := this.map (fun x : α => x.1.1)
    rwa [hdl] at h4
  have hys : d'.toList.map (fun x => x.1.1) = ys := by
    refine perm_sorted_unique (lt := fun x y => cf x y < 0) _ _ (hperm2.trans hperm) (fun x hx y hy => anti x (hperm2.mem_iff.1 hx) y (hperm2.mem_iff.1 hy)) ?_ hs
    rw [List.pairwise_iff_getElem]
    intro i j hi hj hij
    simp only [List.length_map, Array.length_toList] at hi hj
    have := hso i j (Nat.zero_le _) hij (by omega)
    rw [getElem!_pos d' i hi, getElem!_pos d' j hj] at this
    simpa using of_decide_eq_false this
  have hyl : ys.length = xs.length := hperm.length_eq.symm
  -- the row as it stands behind the sort
  have R1 : Rel C m ⟨2, entA 0 [.sl 0 0 xs.length, .p (.fn g cap)], hset ([.own (opl xs)] ++ ancs 0 [Blk.own (opl xs)].length) 0 (.own (opl ys))⟩ #[.slice (some ⟨l.g, l.o + 0, none⟩) xs.length cp, .func (.func g) #[] vs] (Go.Sort.putRow enc (Go.Sort.ahead w n) l.g (l.o + 0) d') := by
    refine R.setBlk (a := { tmps := #[.slice (some ⟨l.g, l.o + 0, none⟩) xs.length cp, .func (.func g) #[] vs], defers := [] }) (c := opl xs) rfl hm ⟨rfl, rfl, rfl, by simp, fun k hk => ?_, by simp⟩ (fun b hb => ?_) (cur := Go.Sort.putCells enc (l.o + 0) d' cur) (e := e) ?_ (by simp [Go.Sort.putCells, hcs]) (by rw [opl_length]; omega) fun j hj => ?_
    · simp only [Go.Sort.putRow, Go.Sort.mapBlock, Array.getElem?_modify]
      rw [if_neg (fun e => hk (by rw [← e]; exact hB))]; rfl
    · simp only [Go.Sort.putRow, Go.Sort.mapBlock, Array.getElem?_modify]
      rw [if_neg (Ne.symm hb)]; rfl
    · simp only [Go.Sort.putRow, Go.Sort.mapBlock, Array.getElem?_modify]
      rw [if_pos trivial]
      show Option.map _ (w.heap[l.g]?) = _
      rw [hg]; rfl
    · rw [opl_length] at hj
      have hjd : j < d'.size := by omega
      have hjc : l.o + j < cur.size := by omega
      have e3 : (Go.Sort.putCells enc (l.o + 0) d' cur).getD (l.o + j) undef = enc d'[j] := by
        simp only [Go.Sort.putCells, Array.getD_eq_getD_getElem?, Array.getElem?_mapIdx, Array.getElem?_eq_getElem hjc, Option.map_some, Option.getD_some]
        rw [if_pos ⟨by omega, by omega⟩, show l.o + j - (l.o + 0) = j by omega, getElem!_pos d' j hjd]
      rw [e3]
      have e4 : ys[j] = d'[j].1.1 := by
        have := hys
        subst this
        simp
      have e5 : (opl ys)[j]'(by rw [opl_length]; exact hj) = .p ys[j] := by simp [opl]
      rw [e5, e4]
      have h6 := d'[j].2.2
      refine .p _ _ ?_
      show Reads (OK C m ([.own (opl xs)] ++ ancs 0 [Blk.own (opl xs)].length) w) w _ _
      rw [hok]
      exact h6
  have R2 := R1.later (w' := w2) (by
    rw [hw]
    refine ⟨rfl, rfl, rfl, by simp [Go.Proofs.sortWorld], fun k hk => ?_, Nat.le_refl _⟩
    unfold Go.Proofs.sortWorld
    exact Go.Sort.heap_grow_old _ _ hk)
  exact ⟨R2.laid, R2.below, R2.base, rfl, R2.inj, R2.blk, R2.fro, fun t => by
    cases t with
    | zero => exact .p _ _ (.tup [] #[] rfl fun c h => absurd h (by simp))
    | succ t => exact .dead _, R2.mp⟩

end
end Go.Pv

/-
  Contracts of the library, laid at this dump: numbers, and that each body is the same. Conditions: none; written by a program of this repo out of the kit's own tool.
-/
set_option linter.all false
namespace Go.Proofs
open Go.Shelf
def Tryd.sortS_ren : Go.Shelf.Ren := ⟨fun | 6 => 108 | 15 => 124 | 14 => 130 | 28 => 145 | 29 => 146 | 20 => 148 | 21 => 149 | 22 => 150 | 23 => 151 | 24 => 152 | 25 => 153 | 26 => 154 | 27 => 155 | 46 => 162 | 47 => 158 | 48 => 159 | 49 => 163 | 50 => 164 | 57 => 166 | n => n, fun | 22 => 68 | 24 => 71 | 25 => 95 | 3 => 3 | 39 => 102 | 0 => 0 | 53 => 118 | 55 => 70 | 4 => 4 | 46 => 111 | 45 => 110 | 50 => 115 | 5 => 5 | 9 => 9 | 66 => 125 | 70 => 129 | 76 => 133 | 77 => 134 | n => n, fun | n => n⟩
theorem Tryd.sortS : Go.Proofs.SlLaysF.n6 Tryd.prog Tryd.sortS_ren := {
  mixed := by kernel_rfl
  f6 := ⟨Tryd.f108.name, by decide, Tryd.func108.trans (congrArg some (by kernel_rfl))⟩
  f14 := ⟨Tryd.f130.name, by decide, Tryd.func130.trans (congrArg some (by kernel_rfl))⟩
  f15 := Tryd.func124.trans (congrArg some (by kernel_rfl))
  f20 := ⟨Tryd.f148.name, by decide, Tryd.func148.trans (congrArg some (by kernel_rfl))⟩
  f21 := ⟨Tryd.f149.name, by decide, Tryd.func149.trans (congrArg some (by kernel_rfl))⟩
  f22 := ⟨Tryd.f150.name, by decide, Tryd.func150.trans (congrArg some (by kernel_rfl))⟩
  f23 := ⟨Tryd.f151.name, by decide, Tryd.func151.trans (congrArg some (by kernel_rfl))⟩
  f24 := ⟨Tryd.f152.name, by decide, Tryd.func152.trans (congrArg some (by kernel_rfl))⟩
  f25 := ⟨Tryd.f153.name, by decide, Tryd.func153.trans (congrArg some (by kernel_rfl))⟩
  f26 := ⟨Tryd.f154.name, by decide, Tryd.func154.trans (congrArg some (by kernel_rfl))⟩
  f27 := ⟨Tryd.f155.name, by decide, Tryd.func155.trans (congrArg some (by kernel_rfl))⟩
  f28 := Tryd.func145.trans (congrArg some (by kernel_rfl))
  f29 := Tryd.func146.trans (congrArg some (by kernel_rfl))
  f46 := ⟨Tryd.f162.name, by decide, Tryd.func162.trans (congrArg some (by kernel_rfl))⟩
  f47 := Tryd.func158.trans (congrArg some (by kernel_rfl))
  f48 := Tryd.func159.trans (congrArg some (by kernel_rfl))
  f49 := ⟨Tryd.f163.name, by decide, Tryd.func163.trans (congrArg some (by kernel_rfl))⟩
  f50 := ⟨Tryd.f164.name, by decide, Tryd.func164.trans (congrArg some (by kernel_rfl))⟩
  f57 := ⟨Tryd.f166.name, by decide, Tryd.func166.trans (congrArg some (by kernel_rfl))⟩
  t0 := Tryd.underlying0
  a0 := Tryd.isAgg0
  z0 := Tryd.sizeOf0
  v0 := Tryd.zeroValue0
  t3 := Tryd.underlying3
  a3 := Tryd.isAgg3
  z3 := Tryd.sizeOf3
  v3 := Tryd.zeroValue3
  t4 := Tryd.underlying4
  a4 := Tryd.isAgg4
  z4 := Tryd.sizeOf4
  v4 := Tryd.zeroValue4
  t5 := Tryd.underlying5
  a5 := Tryd.isAgg5
  z5 := Tryd.sizeOf5
  v5 := Tryd.zeroValue5
  t9 := Tryd.underlying9
  a9 := Tryd.isAgg9
  z9 := Tryd.sizeOf9
  v9 := Tryd.zeroValue9
  t22 := Tryd.underlying68
  a22 := Tryd.isAgg68
  z22 := Tryd.sizeOf68
  v22 := Tryd.zeroValue68
  a24 := Tryd.isAgg71
  z24 := Tryd.sizeOf71
  t25 := Tryd.underlying95
  a25 := Tryd.isAgg95
  z25 := Tryd.sizeOf95
  v25 := Tryd.zeroValue95
  t39 := Tryd.underlying102
  a39 := Tryd.isAgg102
  z39 := Tryd.sizeOf102
  v39 := Tryd.zeroValue102
  t45 := Tryd.underlying110
  a45 := Tryd.isAgg110
  z45 := Tryd.sizeOf110
  v45 := Tryd.zeroValue110
  t46 := Tryd.underlying111
  a46 := Tryd.isAgg111
  z46 := Tryd.sizeOf111
  v46 := Tryd.zeroValue111
  t50 := Tryd.underlying115
  a50 := Tryd.isAgg115
  z50 := Tryd.sizeOf115
  v50 := Tryd.zeroValue115
  t53 := Tryd.underlying118
  a53 := Tryd.isAgg118
  z53 := Tryd.sizeOf118
  v53 := Tryd.zeroValue118
  t55 := Tryd.underlying70
  a55 := Tryd.isAgg70
  z55 := Tryd.sizeOf70
  v55 := Tryd.zeroValue70
  t66 := Tryd.underlying125
  a66 := Tryd.isAgg125
  z66 := Tryd.sizeOf125
  v66 := Tryd.zeroValue125
  t70 := Tryd.underlying129
  a70 := Tryd.isAgg129
  z70 := Tryd.sizeOf129
  v70 := Tryd.zeroValue129
  t76 := Tryd.underlying133
  a76 := Tryd.isAgg133
  z76 := Tryd.sizeOf133
  v76 := Tryd.zeroValue133
  t77 := Tryd.underlying134
  a77 := Tryd.isAgg134
  z77 := Tryd.sizeOf134
  v77 := Tryd.zeroValue134 }
def Tryd.sortL_ren : Go.Shelf.Ren := ⟨fun | 6 => 91 | 15 => 124 | 14 => 123 | 28 => 145 | 29 => 146 | 20 => 137 | 21 => 138 | 22 => 139 | 23 => 140 | 24 => 141 | 25 => 142 | 26 => 143 | 27 => 144 | 46 => 157 | 47 => 158 | 48 => 159 | 49 => 160 | 50 => 161 | 57 => 165 | n => n, fun | 22 => 25 | 24 => 22 | 25 => 87 | 3 => 3 | 39 => 102 | 0 => 0 | 53 => 118 | 55 => 70 | 4 => 4 | 46 => 111 | 45 => 110 | 50 => 115 | 5 => 5 | 9 => 9 | 66 => 125 | 70 => 129 | 76 => 133 | 77 => 134 | n => n, fun | n => n⟩
theorem Tryd.sortL : Go.Proofs.SlLaysF.n6 Tryd.prog Tryd.sortL_ren := {
  mixed := by kernel_rfl
  f6 := ⟨Tryd.f91.name, by decide, Tryd.func91.trans (congrArg some (by kernel_rfl))⟩
  f14 := ⟨Tryd.f123.name, by decide, Tryd.func123.trans (congrArg some (by kernel_rfl))⟩
  f15 := Tryd.func124.trans (congrArg some (by kernel_rfl))
  f20 := ⟨Tryd.f137.name, by decide, Tryd.func137.trans (congrArg some (by kernel_rfl))⟩
  f21 := ⟨Tryd.f138.name, by decide, Tryd.func138.trans (congrArg some (by kernel_rfl))⟩
  f22 := ⟨Tryd.f139.name, by decide, Tryd.func139.trans (congrArg some (by kernel_rfl))⟩
  f23 := ⟨Tryd.f140.name, by decide, Tryd.func140.trans (congrArg some (by kernel_rfl))⟩
  f24 := ⟨Tryd.f141.name, by decide, Tryd.func141.trans (congrArg some (by kernel_rfl))⟩
  f25 := ⟨Tryd.f142.name, by decide, Tryd.func142.trans (congrArg some (by kernel_rfl))⟩
  f26 := ⟨Tryd.f143.name, by decide, Tryd.func143.trans (congrArg some (by kernel_rfl))⟩
  f27 := ⟨Tryd.f144.name, by decide, Tryd.func144.trans (congrArg some (by kernel_rfl))⟩
  f28 := Tryd.func145.trans (congrArg some (by kernel_rfl))
  f29 := Tryd.func146.trans (congrArg some (by kernel_rfl))
  f46 := ⟨Tryd.f157.name, by decide, Tryd.func157.trans (congrArg some (by kernel_rfl))⟩
  f47 := Tryd.func158.trans (congrArg some (by kernel_rfl))
  f48 := Tryd.func159.trans (congrArg some (by kernel_rfl))
  f49 := ⟨Tryd.f160.name, by decide, Tryd.func160.trans (congrArg some (by kernel_rfl))⟩
  f50 := ⟨Tryd.f161.name, by decide, Tryd.func161.trans (congrArg some (by kernel_rfl))⟩
  f57 := ⟨Tryd.f165.name, by decide, Tryd.func165.trans (congrArg some (by kernel_rfl))⟩
  t0 := Tryd.underlying0
  a0 := Tryd.isAgg0
  z0 := Tryd.sizeOf0
  v0 := Tryd.zeroValue0
  t3 := Tryd.underlying3
  a3 := Tryd.isAgg3
  z3 := Tryd.sizeOf3
  v3 := Tryd.zeroValue3
  t4 := Tryd.underlying4
  a4 := Tryd.isAgg4
  z4 := Tryd.sizeOf4
  v4 := Tryd.zeroValue4
  t5 := Tryd.underlying5
  a5 := Tryd.isAgg5
  z5 := Tryd.sizeOf5
  v5 := Tryd.zeroValue5
  t9 := Tryd.underlying9
  a9 := Tryd.isAgg9
  z9 := Tryd.sizeOf9
  v9 := Tryd.zeroValue9
  t22 := Tryd.underlying25
  a22 := Tryd.isAgg25
  z22 := Tryd.sizeOf25
  v22 := Tryd.zeroValue25
  a24 := Tryd.isAgg22
  z24 := Tryd.sizeOf22
  t25 := Tryd.underlying87
  a25 := Tryd.isAgg87
  z25 := Tryd.sizeOf87
  v25 := Tryd.zeroValue87
  t39 := Tryd.underlying102
  a39 := Tryd.isAgg102
  z39 := Tryd.sizeOf102
  v39 := Tryd.zeroValue102
  t45 := Tryd.underlying110
  a45 := Tryd.isAgg110
  z45 := Tryd.sizeOf110
  v45 := Tryd.zeroValue110
  t46 := Tryd.underlying111
  a46 := Tryd.isAgg111
  z46 := Tryd.sizeOf111
  v46 := Tryd.zeroValue111
  t50 := Tryd.underlying115
  a50 := Tryd.isAgg115
  z50 := Tryd.sizeOf115
  v50 := Tryd.zeroValue115
  t53 := Tryd.underlying118
  a53 := Tryd.isAgg118
  z53 := Tryd.sizeOf118
  v53 := Tryd.zeroValue118
  t55 := Tryd.underlying70
  a55 := Tryd.isAgg70
  z55 := Tryd.sizeOf70
  v55 := Tryd.zeroValue70
  t66 := Tryd.underlying125
  a66 := Tryd.isAgg125
  z66 := Tryd.sizeOf125
  v66 := Tryd.zeroValue125
  t70 := Tryd.underlying129
  a70 := Tryd.isAgg129
  z70 := Tryd.sizeOf129
  v70 := Tryd.zeroValue129
  t76 := Tryd.underlying133
  a76 := Tryd.isAgg133
  z76 := Tryd.sizeOf133
  v76 := Tryd.zeroValue133
  t77 := Tryd.underlying134
  a77 := Tryd.isAgg134
  z77 := Tryd.sizeOf134
  v77 := Tryd.zeroValue134 }
end Go.Proofs

/-
  A loop over a map of one's own: its entries come in whatever order. Conditions: none; a library text.
-/
set_option linter.all false
namespace Go.Pv
open Go.RowKit

section
variable {P : Program} {C : Ctx} {m : Map} {s : St} {tmps : Array Value} {w : World}

/-- The frame where some blocks are left alone. -/
def holdC (C : Ctx) (X : Nat → Prop) (w : World) : Ctx := ⟨fun b => C.okA b ∨ C.B b, fun b => C.B b ∧ ¬ X b, w, C.anc⟩

theorem holdC_ok (C : Ctx) (X : Nat → Prop) (w0 : World) (m : Map) (H : Heap) (w : World) : OK (holdC C X w0) m H w = OK C m H w := by
  funext b
  unfold OK holdC
  refine propext ⟨fun h => ⟨?_, h.2⟩, fun h => ⟨.inl h.1, h.2⟩⟩
  rcases h.1 with h1 | h1
  · exact h1
  · exact .inr h1.1

theorem Rel.hold (R : Rel C m s tmps w) (X : Nat → Prop) (hX : ∀ b, X b → b < w.heap.size ∧ ∀ cur e sh, w.heap[b]? ≠ some (.cells cur e sh))
    (hmp : ∀ (k : Nat) (kk : IntKind) (d : Int → Bool) (v : Int → PV) (l : Loc), s.H[k]? = some (Blk.mp kk d v) → m k = some l → ¬ X l.g) : Rel (holdC C X w) m s tmps w := by
  have e := holdC_ok C X w m s.H w
  refine ⟨by rw [e]; exact R.laid, BelowP.refl _ _, fun b hb => ⟨R.base b hb, fun hx => by have := (hX b hx).1; omega⟩, R.size, R.inj, fun k c h => ?_, by rw [e]; exact R.fro, by rw [e]; exact R.slot, fun k kk d v h => ?_, R.mp.2.1, R.mp.2.2⟩
  · rw [e]
    rcases R.blk k c h with h1 | ⟨l, cur, ee, a1, a2, a3, a4⟩
    · exact .inl h1
    · exact .inr ⟨l, cur, ee, a1, ⟨a2, fun hx => (hX _ hx).2 _ _ _ a3⟩, a3, a4⟩
  · rw [e]
    obtain ⟨l, ar, clk, vs, a1, a2, a3⟩ := R.mp.1 k kk d v h
    exact ⟨l, ar, clk, vs, a1, ⟨a2, hmp k kk d v l h a1⟩, a3⟩

theorem BelowP.monoB {B B' : Nat → Prop} {a b : World} (h : BelowP B a b) (hB : ∀ k, B k → B' k) : BelowP B' a b :=
  ⟨h.os, h.tape, h.output, h.size, fun k hk => h.block k fun hh => hk (hB k hh), h.dr⟩

theorem Rel.unhold {X : Nat → Prop} {w0 : World} (R : Rel (holdC C X w0) m s tmps w) (hb : BelowP C.B C.w0 w0) : Rel C m s tmps w := by
  have e := holdC_ok C X w0 m s.H w
  have hB : ∀ b, (holdC C X w0).B b → C.B b := fun b h => h.1
  refine ⟨by rw [← e]; exact R.laid, hb.trans (R.below.monoB hB), fun b h => hB b (R.base b h), R.size, R.inj, fun k c h => ?_, by rw [← e]; exact R.fro, by rw [← e]; exact R.slot, fun k kk d v h => ?_, R.mp.2.1, R.mp.2.2⟩
  · rw [← e]
    rcases R.blk k c h with h1 | ⟨l, cur, ee, a1, a2, a3, a4⟩
    · exact .inl h1
    · exact .inr ⟨l, cur, ee, a1, hB _ a2, a3, a4⟩
  · rw [← e]
    obtain ⟨l, ar, clk, vs, a1, a2, a3⟩ := R.mp.1 k kk d v h
    exact ⟨l, ar, clk, vs, a1, hB _ a2, a3⟩

/-- The frame begins anew. -/
theorem Rel.anew {X : Nat → Prop} {w0 : World} (R : Rel (holdC C X w0) m s tmps w) : Rel (holdC C X w) m s tmps w := by
  have e : OK (holdC C X w) m s.H w = OK (holdC C X w0) m s.H w := (holdC_ok C X w m s.H w).trans (holdC_ok C X w0 m s.H w).symm
  exact ⟨by rw [e]; exact R.laid, BelowP.refl _ _, R.base, R.size, R.inj, by rw [e]; exact R.blk, by rw [e]; exact R.fro, by rw [e]; exact R.slot, by rw [e]; exact R.mp⟩

/-- One of the blocks that are left alone turns; it is none of cells. -/
theorem Rel.turn {X : Nat → Prop} {w0 w2 : World} (R : Rel (holdC C X w0) m s tmps w) {r : Nat} (hr : X r) (hw : ∀ cur e sh, w.heap[r]? ≠ some (.cells cur e sh)) (h1 : ∀ b, b ≠ r → w2.heap[b]? = w.heap[b]?) (h2 : w2.heap.size = w.heap.size) : Rel (holdC C X w2) m s tmps w2 := by
  have e : OK (holdC C X w2) m s.H w2 = OK (holdC C X w0) m s.H w := by
    rw [holdC_ok, holdC_ok]
    funext b
    unfold OK
    rw [h2]
  have hcell : ∀ (b o : Nat) (x : Value), w.cell? ⟨b, o, none⟩ = some x → w2.cell? ⟨b, o, none⟩ = some x := fun b o x h => by
    by_cases eb : b = r
    · subst eb
      exfalso
      unfold World.cell? at h
      split at h
      · rename_i hh; exact hw _ _ _ hh
      · cases h
    · rw [World.cell?_of_block (w := w) (h1 b eb)]; exact h
  have rdx : ∀ p x, Reads (OK (holdC C X w0) m s.H w) w p x → Reads (OK (holdC C X w0) m s.H w) w2 p x := fun p x h => h.extc (fun _ h => h) fun b o y _ hc => hcell b o y hc
  refine ⟨by rw [e]; exact R.laid.ext rdx, BelowP.refl _ _, by rw [h2]; exact R.base, R.size, R.inj, fun k c h => ?_, fun k c h => ?_, fun t => ?_, fun k kk d v h => ?_, R.mp.2.1, R.mp.2.2⟩
  · rw [e]
    have hb := R.blk k c h
    refine hb.ext rdx (Nat.le_refl _) (fun _ _ => rfl) rfl fun l hl => ?_
    rcases hb with ⟨_, hn⟩ | ⟨l2, cur, ee, a1, a2, a3, _⟩
    · rw [hl] at hn; cases hn
    · rw [hl] at a1; cases a1
      exact h1 _ fun eb => a2.2 (eb ▸ hr)
  · rw [e]
    rcases R.fro k c h with h' | ⟨l2, vs2, b1, b2, b3, b4⟩
    · exact .inl h'
    · exact .inr ⟨l2, vs2, b1, b2, b3, fun i hi => ⟨hcell _ _ _ (b4 i hi).1, rdx _ _ (b4 i hi).2⟩⟩
  · rw [e]
    exact (R.slot t).ext rdx (Nat.le_refl _) fun _ _ => rfl
  · rw [e]
    obtain ⟨l, ar, clk, vs, a1, a2, a3, a4, a5, a6, a7⟩ := R.mp.1 k kk d v h
    have hne : l.g ≠ r := fun eb => a2.2 (eb ▸ hr)
    exact ⟨l, ar, clk, vs, a1, a2, by rw [h1 _ hne]; exact a3, a4, a5, a6, fun z hz => rdx _ _ (a7 z hz)⟩

/-! ### The loop -/

/-- Where the loop stands: which keys have come. -/
def ItOk (ar : Array MapEntry) (clk bm r : Nat) (L : List Int) (w : World) : Prop :=
  w.heap[bm]? = some (.map ar clk) ∧ ∃ (seen : Array Nat) (vis : List MapEntry), w.heap[r]? = some (.mapIter (some bm) clk seen clk) ∧ (∀ e ∈ vis, e ∈ ar.toList) ∧ seen.toList = vis.map MapEntry.born ∧ L = vis.map (fun e => keyInt e.key) ∧ L.Nodup

def itLeft (ar : Array MapEntry) (r : Nat) (w : World) : Nat :=
  match w.heap[r]? with
  | some (.mapIter _ _ seen _) => (leftOf ar seen).size
  | _ => 0

theorem nodup_inj {α β : Type} {f : α → β} : ∀ {l : List α}, (l.map f).Nodup → ∀ {x y : α}, x ∈ l → y ∈ l → f x = f y → x = y
  | a :: r, h, x, y, hx, hy, e => by
    obtain ⟨h1, h2⟩ := List.nodup_cons.1 h
    rcases List.mem_cons.1 hx with rfl | hx'
    · rcases List.mem_cons.1 hy with rfl | hy'
      · rfl
      · exact absurd (e ▸ List.mem_map.2 ⟨y, hy', rfl⟩) h1
    · rcases List.mem_cons.1 hy with rfl | hy'
      · exact absurd (e ▸ List.mem_map.2 ⟨x, hx', rfl⟩) h1
      · exact nodup_inj h2 hx' hy' e

theorem hk_range {T : TypeId → Option TI} (hT : ∀ t ti, T t = some ti → tiOf P t = some ti) {Q : Exit → St → Prop} {rid rid1 rid2 bid bid3 xs t34 t35 t36 t37 t38 t39 t11 : Nat} {ty y1 y2 y3 y4 y5 y6 y7 : TypeId} {p1 p2 p3 p4 p5 p6 p7 : String} {e1 e2 e3 e4 e5 e6 e7 : Array Edge} {body : Code}
    {ti : TI} (ht : T ty = some ti) {kt et : TypeId} {zo : Option Value} (hkind : ti.kind = .map kt et zo)
    {k : Nat} {kk : IntKind} {d : Int → Bool} {v : Int → PV} (hx : s.get xs = .mptr k) (hg : hget s.H k = .mp kk d v)
    (S : Nat → List Int → St) (π : List Nat) (hd : (decide (t34 < s.n ∧ t35 < s.n ∧ t36 < s.n ∧ t37 < s.n ∧ t38 < s.n ∧ t39 < s.n ∧ t11 < s.n ∧ ¬ t36 = t35 ∧ ¬ t37 = t35)) = true)
    (hS : ∀ r L, (S r L).get t35 = .itv r ∧ (S r L).n = s.n)
    (h0 : ∀ r, Le π (S r []) ((({ s with H := hset s.H k .dead } : St).put (some t34) .dead).put (some t35) (.itv r)))
    (step : ∀ r L z, L.Nodup → (∀ y ∈ L, d y = true) → d z = true → z ∉ L → Holds P body (InB bid3 (Thn (fun s' => ∃ π, Le π (S r (L ++ [z])) s') (InB bid Q))) ((((((S r L).put (some t36) .dead).put (some t37) (.p (.bool true))).put (some t38) .dead).put (some t39) (.p (.int kk z))).put (some t11) (.p (.int kk z))))
    (fin : ∀ r L, L.Nodup → (∀ z, d z = true ↔ z ∈ L) → Q .normal (((S r L).put (some t36) .dead).put (some t37) (.p (.bool false)))) :
    Holds P ((Code.region rid #[{ dst := some t34, op := .move (.tmp xs), type := y1, pos := p1, after := e1, guard := none }, { dst := some t35, op := .range ty (.tmp t34), type := y2, pos := p2, after := e2, guard := none }] false).seq
      (Code.block bid (((Code.region rid1 #[{ dst := some t36, op := .next (.tmp t35) false, type := y3, pos := p3, after := e3, guard := none }, { dst := some t37, op := .extract (.tmp t36) 0, type := y4, pos := p4, after := e4, guard := none }] false).seq
        ((Code.cond (.tmp t37) .skip (.exit bid)).seq (Code.block bid3 ((Code.region rid2 #[{ dst := some t38, op := .entry (.tmp t35), type := y5, pos := p5, after := e5, guard := none }, { dst := some t39, op := .extract (.tmp t38) 0, type := y6, pos := p6, after := e6, guard := none }, { dst := some t11, op := .assign (.tmp t39), type := y7, pos := p7, after := e7, guard := none }] false).seq body)))).loop))) Q s := by
  rw [decide_eq_true_eq] at hd
  obtain ⟨d34, d35, d36, d37, d38, d39, d11, n36, n37⟩ := hd
  intro C m a w R hdf
  have hu := (ti_map (hT _ _ ht) hkind).1
  have hk := hget_some hg (by simp)
  have hxe := R.ev (.tmp xs)
  rw [show s.ev (.tmp xs) = .mptr k from hx] at hxe
  generalize hxv : a.eval (.tmp xs) = xv at hxe
  cases hxe with
  | mptr _ _ hkl hp =>
  obtain ⟨l, hml, rfl⟩ := hp
  obtain ⟨l', ar, clk, vs, a1, a2, a3, a4, a5, a6, a7⟩ := R.mp.1 k kk d v hk
  rw [hml] at a1; cases a1
  have hbl : l.g < w.heap.size := (Array.getElem?_eq_some_iff.1 a3).1
  have hkey : ∀ e ∈ ar.toList, e.key = .int kk (keyInt e.key) := fun e he => by
    obtain ⟨z, hz⟩ := a4.1 e he
    rw [hz]; rfl
  have hdk : ∀ e ∈ ar.toList, d (keyInt e.key) = true := fun e he => by
    cases hdd : d (keyInt e.key) with
    | true => rfl
    | false => exact absurd (a5 _ hdd) (mlk_ne ⟨e, he, hkey e he⟩)
  refine wp_seq (wp_region_lit ?_)
  refine wpList_plain rfl fun K1 hK1 => ?_
  unfold Oper.wp
  simp only [execOp, Sem.run_pure, Sem.run_map, Result.andThen_ok, hxv]
  refine hK1 _ _ ?_
  refine wpList_plain rfl fun K2 hK2 => ?_
  unfold Oper.wp
  have hev : (a.put (some t34) (.map (some l.g))).eval (.tmp t34) = .map (some l.g) := by
    have hsz := R.size
    simp [Act.put, Act.eval, hsz, d34]
  have hrun := run_range_map (P := P) w ty kt et l.g ar clk hu a3
  simp only [execOp, Sem.run_bind, Sem.run_pure, Sem.run_map, Result.andThen_ok, hev, hrun]
  refine hK2 _ _ (wpList_nil ?_)
  obtain ⟨r, hr⟩ : ∃ r, r = w.heap.size := ⟨_, rfl⟩
  obtain ⟨w1, hw1⟩ : ∃ w1, w1 = w.alloc (.mapIter (some l.g) clk #[] clk) := ⟨_, rfl⟩
  rw [← hr, ← hw1]
  have hal := MapKept.heap_alloc w (.mapIter (some l.g) clk #[] clk)
  have hr1 : w1.heap[r]? = some (.mapIter (some l.g) clk #[] clk) := by rw [hw1, hr]; exact hal.1
  have hb1 : w1.heap[l.g]? = some (.map ar clk) := by rw [hw1]; exact (hal.2 _ hbl).trans a3
  have hCr : C.B r := R.base r (by omega)
  have hbel1 : Below w.heap.size w w1 := by rw [hw1]; exact (Below.refl _ _).alloc (Nat.le_refl _) _
  have R1 : Rel C m ((({ s with H := hset s.H k .dead } : St).put (some t34) .dead).put (some t35) (.itv r)) ((a.put (some t34) (.map (some l.g))).put (some t35) (.pointer (some ⟨r, 0, none⟩))).tmps w1 :=
    (((R.kill k).later hbel1).put (fun t h => by cases h; exact d34) (.dead _)).put (fun t h => by cases h; exact d35) (.itv r)
  obtain ⟨X, hX⟩ : ∃ X : Nat → Prop, X = fun b => b = l.g ∨ b = r := ⟨_, rfl⟩
  have hXg : X l.g := by rw [hX]; exact .inl rfl
  have hXr : X r := by rw [hX]; exact .inr rfl
  have R2 := R1.hold X (fun b hb => by
    rw [hX] at hb
    rcases hb with rfl | rfl
    · exact ⟨(Array.getElem?_eq_some_iff.1 hb1).1, fun _ _ _ h => by rw [hb1] at h; cases h⟩
    · exact ⟨(Array.getElem?_eq_some_iff.1 hr1).1, fun _ _ _ h => by rw [hr1] at h; cases h⟩) (fun j kk' d' v' l2 h hl2 => by
    rw [St.put_H, St.put_H] at h
    have h2 : j ≠ k ∧ s.H[j]? = some (.mp kk' d' v') := by
      simp only at h
      rw [hset_get] at h
      by_cases e : j = k
      · rw [if_pos ⟨e, hkl⟩] at h; cases h
      · rw [if_neg (by simp [e])] at h; exact ⟨e, h⟩
    rw [hX]
    rintro (e | e)
    · exact h2.1 (R.mp.2.1 _ _ _ _ _ _ _ _ _ _ h2.2 hk hl2 hml e)
    · obtain ⟨l3, ar3, clk3, vs3, b1, b2, b3, _⟩ := R.mp.1 j kk' d' v' h2.2
      rw [hl2] at b1; cases b1
      have := (Array.getElem?_eq_some_iff.1 b3).1
      omega)
  have R3 := R2.weaken (h0 r)
  have hB0 : BelowP C.B C.w0 w1 := R1.below
  show Code.wp P _ _ _ _
  refine wp_block (wp_loop (fun a' w' => ∃ L m', Rel (holdC C X w') m' (S r L) a'.tmps w' ∧ a'.defers = [] ∧ ItOk ar clk l.g r L w' ∧ (∀ y ∈ L, d y = true) ∧ BelowP C.B C.w0 w') (fun _ w' => itLeft ar r w') ⟨[], _, R3, hdf, ⟨hb1, #[], [], hr1, by simp, rfl, rfl, List.nodup_nil⟩, by simp, hB0⟩ ?_)
  rintro a2 w2 ⟨L, m2, RL, hdf2, ⟨hb2, seen, vis, hr2, hvis, hseen, hLv, hLn⟩, hLd, hbel⟩
  have hv35 : a2.eval (.tmp t35) = .pointer (some ⟨r, 0, none⟩) := by
    have h := RL.ev (.tmp t35)
    rw [show (S r L).ev (.tmp t35) = .itv r from (hS r L).1] at h
    generalize a2.eval (.tmp t35) = x at h ⊢
    cases h; rfl
  have hsz := RL.size
  rw [(hS r L).2] at hsz
  have hput : ∀ (a : Act) (t : Nat) (v : Value), a.tmps.size = s.n → t < s.n → (a.put (some t) v).eval (.tmp t) = v := fun a t v h1 h2 => by
    simp [Act.put, Act.eval, h1, h2]
  have hnsz : ∀ (a : Act) (t : Nat) (v : Value), a.tmps.size = s.n → (a.put (some t) v).tmps.size = s.n := fun a t v h1 => by
    simp [Act.put, h1]
  refine wp_seq (wp_region_lit ?_)
  refine wpList_plain rfl fun K3 hK3 => ?_
  unfold Oper.wp
  rcases run_next_at (P := P) w2 y3 r l.g clk clk seen ar clk hr2 hb2 a4.2.2.1 (Nat.le_refl _) with ⟨hz0, hrun2⟩ | ⟨e, he, w3, hal3, hrun2⟩
  · simp only [execOp, Sem.run_bind, Sem.run_pure, Sem.run_map, Result.andThen_ok, hv35, hrun2]
    refine hK3 _ _ ?_
    refine wpList_plain rfl fun K4 hK4 => ?_
    unfold Oper.wp
    simp only [execOp, Sem.run_bind, Sem.run_pure, Sem.run_map, Result.andThen_ok, hput a2 t36 _ hsz d36]
    have hex : (Instr.extract (.tuple #[.bool false]) 0).run P w2 = .ok (.bool false) w2 := rfl
    simp only [hex, Result.andThen_ok]
    refine hK4 _ _ (wpList_nil ?_)
    show Code.wp P _ _ _ _
    refine wp_seq (wp_cond_false (hput _ t37 _ (hnsz _ _ _ hsz) d37) (wp_exit ?_))
    have hall := all_seen ar seen hz0
    simp only [Exit.then, Exit.inBlock, if_true]
    refine ⟨_, m2, fin r L hLn fun z => ⟨fun hz => ?_, hLd z⟩, ((RL.unhold hbel).put (fun t h => by cases h; rw [(hS r L).2]; exact d36) (.dead _)).put (fun t h => by cases h; show t37 < (S r L).n; rw [(hS r L).2]; exact d37) (.p _ _ (.bool false)), hdf2⟩
    obtain ⟨e0, he0, hz0'⟩ := mlk_some (a6 z hz)
    have h1 := hall e0 he0
    rw [Array.contains_iff_mem, ← Array.mem_toList_iff, hseen] at h1
    obtain ⟨e1, he1, hb1'⟩ := List.mem_map.1 h1
    have := nodup_inj a4.2.2.2 (hvis e1 he1) he0 hb1'
    rw [hLv]
    exact List.mem_map.2 ⟨e1, he1, by rw [this, hz0']; rfl⟩
  · obtain ⟨hem, hes⟩ := mem_left he
    simp only [execOp, Sem.run_bind, Sem.run_pure, Sem.run_map, Result.andThen_ok, hv35, hrun2]
    refine hK3 _ _ ?_
    refine wpList_plain rfl fun K4 hK4 => ?_
    unfold Oper.wp
    simp only [execOp, Sem.run_bind, Sem.run_pure, Sem.run_map, Result.andThen_ok, hput a2 t36 _ hsz d36]
    obtain ⟨w4, hw4⟩ : ∃ w4, w4 = Go.ChangeMaps.setBlock w3 r (.mapIter (some l.g) clk (seen.push e.born) clk) := ⟨_, rfl⟩
    rw [← hw4]
    have hex : (Instr.extract (.tuple #[.bool true, e.key, e.val]) 0).run P w4 = .ok (.bool true) w4 := rfl
    simp only [hex, Result.andThen_ok]
    refine hK4 _ _ (wpList_nil ?_)
    show Code.wp P _ _ _ _
    refine wp_seq (wp_cond_true (hput _ t37 _ (hnsz _ _ _ hsz) d37) (wp_skip ?_))
    show Code.wp P _ _ _ _
    have hr3 : w3.heap[r]? = some (.mapIter (some l.g) clk seen clk) := by rcases hal3 with rfl | rfl <;> exact hr2
    have hset := MapKept.heap_set (o' := .mapIter (some l.g) clk (seen.push e.born) clk) hr3
    have h3o : ∀ b, b ≠ r → w4.heap[b]? = w2.heap[b]? := fun b hb => by
      rw [hw4]
      rcases hal3 with rfl | rfl <;> exact hset.2 b hb
    have h3s : w4.heap.size = w2.heap.size := by
      rw [hw4]
      rcases hal3 with rfl | rfl <;> simp [Go.ChangeMaps.setBlock]
    have hr4 : w4.heap[r]? = some (.mapIter (some l.g) clk (seen.push e.born) clk) := by rw [hw4]; exact hset.1
    have hb4 : w4.heap[l.g]? = some (.map ar clk) := (h3o _ (by omega)).trans hb2
    have RT := RL.turn hXr (fun _ _ _ h => by rw [hr2] at h; cases h) h3o h3s
    have hbel4 : BelowP C.B C.w0 w4 := hbel.trans ⟨by rw [hw4]; rcases hal3 with rfl | rfl <;> rfl, by rw [hw4]; rcases hal3 with rfl | rfl <;> rfl, by rw [hw4]; rcases hal3 with rfl | rfl <;> rfl, by rw [h3s]; exact Nat.le_refl _, fun b hb => h3o b fun e => hb (e ▸ hCr), by rw [hw4]; rcases hal3 with rfl | rfl; exact Nat.le_refl _; exact Nat.le_succ _⟩
    refine wp_block (wp_seq (wp_region_lit ?_))
    refine wpList_plain rfl fun K5 hK5 => ?_
    unfold Oper.wp
    have RT2 := (RT.put (d := some t36) (v := .tuple #[.bool true, e.key, e.val]) (x := .dead) (fun t h => by cases h; rw [(hS r L).2]; exact d36) (.dead _)).put (d := some t37) (v := .bool true) (x := .p (.bool true)) (fun t h => by cases h; show t37 < (S r L).n; rw [(hS r L).2]; exact d37) (.p _ _ (.bool true))
    have hsz5 : ((a2.put (some t36) (.tuple #[.bool true, e.key, e.val])).put (some t37) (.bool true)).tmps.size = s.n := hnsz _ _ _ (hnsz _ _ _ hsz)
    generalize ha5 : (a2.put (some t36) (.tuple #[.bool true, e.key, e.val])).put (some t37) (.bool true) = a5 at RT2 hsz5 ⊢
    have hdf5 : a5.defers = [] := by rw [← ha5]; exact hdf2
    have hv5 : a5.eval (.tmp t35) = .pointer (some ⟨r, 0, none⟩) := by
      have h := RT2.ev (.tmp t35)
      have e35 : (((S r L).put (some t36) .dead).put (some t37) (.p (.bool true))).ev (.tmp t35) = .itv r := by
        show lk _ t35 = _
        simp only [St.put, lk, show (t37 == t35) = false by simpa using n37, show (t36 == t35) = false by simpa using n36, cond_false]
        exact (hS r L).1
      rw [e35] at h
      generalize a5.eval (.tmp t35) = x at h ⊢
      cases h; rfl
    have hen := run_entry_at (P := P) w4 r l.g clk seen ar clk e hr4 hb4 hem a4.2.2.2
    simp only [execOp, Sem.run_bind, Sem.run_pure, Sem.run_map, Result.andThen_ok, hv5, hen]
    refine hK5 _ _ ?_
    refine wpList_plain rfl fun K6 hK6 => ?_
    unfold Oper.wp
    simp only [execOp, Sem.run_bind, Sem.run_pure, Sem.run_map, Result.andThen_ok, hput a5 t38 _ hsz5 d38]
    have hex2 : (Instr.extract (.tuple #[e.key, e.val]) 0).run P w4 = .ok e.key w4 := rfl
    simp only [hex2, Result.andThen_ok]
    refine hK6 _ _ ?_
    refine wpList_plain rfl fun K7 hK7 => ?_
    unfold Oper.wp
    simp only [execOp, Sem.run_bind, Sem.run_pure, Sem.run_map, Result.andThen_ok, hput _ t39 _ (hnsz _ _ _ hsz5) d39]
    refine hK7 _ _ (wpList_nil ?_)
    show Code.wp P _ _ _ _
    have hkz := hkey e hem
    generalize hzz : keyInt e.key = z at hkz
    have hzL : z ∉ L := fun hz => by
      rw [hLv] at hz
      obtain ⟨e1, he1, h1⟩ := List.mem_map.1 hz
      have h2 : e1 = e := nodup_inj a4.2.1 (hvis e1 he1) hem (by rw [hkey e1 (hvis e1 he1), h1, hkz])
      rw [h2] at he1
      have h3 : seen.contains e.born = true := by rw [Array.contains_iff_mem, ← Array.mem_toList_iff, hseen]; exact List.mem_map.2 ⟨e, he1, rfl⟩
      rw [hes] at h3; cases h3
    have hdz : d z = true := by rw [← hzz]; exact hdk e hem
    rw [hkz]
    have RT5 := ((RT2.put (d := some t38) (v := .tuple #[.int kk z, e.val]) (x := .dead) (fun t h => by cases h; show t38 < (S r L).n; rw [(hS r L).2]; exact d38) (.dead _)).put (d := some t39) (v := .int kk z) (x := .p (.int kk z)) (fun t h => by cases h; show t39 < (S r L).n; rw [(hS r L).2]; exact d39) (.p _ _ (.int kk z))).put (d := some t11) (v := .int kk z) (x := .p (.int kk z)) (fun t h => by cases h; show t11 < (S r L).n; rw [(hS r L).2]; exact d11) (.p _ _ (.int kk z))
    refine wp_mono (step r L z hLn hLd hdz hzL _ m2 _ w4 RT5 hdf5) fun ex a6 w6 ⟨s6, m6, q1, q2, q3⟩ => ?_
    have hBr : ¬ (holdC C X w4).B r := fun h => h.2 hXr
    have hBg : ¬ (holdC C X w4).B l.g := fun h => h.2 hXg
    have hr6 : w6.heap[r]? = some (.mapIter (some l.g) clk (seen.push e.born) clk) := (q2.below.block r hBr).trans hr4
    have hb6 : w6.heap[l.g]? = some (.map ar clk) := (q2.below.block l.g hBg).trans hb4
    have nrm : (∃ π, Le π (S r (L ++ [z])) s6) → (∃ L m', Rel (holdC C X w6) m' (S r L) a6.tmps w6 ∧ a6.defers = [] ∧ ItOk ar clk l.g r L w6 ∧ (∀ y ∈ L, d y = true) ∧ BelowP C.B C.w0 w6) ∧ itLeft ar r w6 < itLeft ar r w2 := by
      rintro ⟨π', hle⟩
      refine ⟨⟨L ++ [z], _, (q2.weaken hle).anew, q3, ⟨hb6, seen.push e.born, vis ++ [e], hr6, fun x hx => ?_, by rw [Array.toList_push, hseen]; simp, by rw [hLv]; simp [hzz], List.nodup_append.2 ⟨hLn, by simp, fun x hx y hy he => hzL (by rw [List.mem_singleton] at hy; rw [← hy, ← he]; exact hx)⟩⟩, fun y hy => ?_, hbel4.trans (q2.below.monoB fun _ h => h.1)⟩, ?_⟩
      · rcases List.mem_append.1 hx with hx | hx
        · exact hvis x hx
        · rw [List.mem_singleton] at hx; rw [hx]; exact hem
      · rcases List.mem_append.1 hy with hy | hy
        · exact hLd y hy
        · rw [List.mem_singleton] at hy; rw [hy]; exact hdz
      · simp only [itLeft, hr6, hr2]
        exact left_shrinks ar seen e he
    have oth : Q ex s6 → ∃ s' m', Q ex s' ∧ Rel C m' s' a6.tmps w6 ∧ a6.defers = [] := fun h => ⟨s6, m6, h, q2.unhold hbel4, q3⟩
    cases ex with
    | normal => exact nrm q1
    | exit j =>
      simp only [Exit.then, Exit.inBlock, InB] at q1 ⊢
      by_cases hj : j = bid3
      · rw [if_pos hj] at q1 ⊢; exact nrm q1
      · rw [if_neg hj] at q1 ⊢
        simp only [Thn, InB] at q1
        by_cases hj2 : j = bid
        · simp only [hj2, if_true] at q1 ⊢
          exact ⟨s6, m6, q1, q2.unhold hbel4, q3⟩
        · simp only [hj2, if_false] at q1 ⊢
          exact oth q1
    | goto g => exact oth q1
    | ret => exact oth q1
    | panic c => exact oth q1
    | outgrown => exact oth q1
end
end Go.Pv

/-
  All of Sylow's subgroups, as the program has them. Conditions: none.
-/
set_option linter.all false
namespace Go.Proofs.YtjikchbmkodgfaaDoor
open Go.Pv

def sql (SL : List Nat) : List (List Int) := SL.map stl
theorem sql_len (SL : List Nat) : (sql SL).length = SL.length := by simp [sql]
theorem sql_get {SL : List Nat} {i : Nat} (hi : i < SL.length) : (sql SL).getD i [] = stl (SL.getD i 0) := by
  simp [sql, List.getD, List.getElem?_eq_getElem hi]
def slz (L : List Int) : List (List Int) := L.map fun z => stl z.toNat
theorem slz_snoc (L : List Int) (z : Int) : slz (L ++ [z]) = slz L ++ [stl z.toNat] := by simp [slz]
theorem slz_len (L : List Int) : (slz L).length = L.length := by simp [slz]
def pvi : PV → Int
  | .int _ x => x
  | _ => 0
theorem pvi_il (v : List Int) : (il v).map pvi = v := by
  unfold il
  rw [List.map_map]
  exact (List.map_congr_left fun _ _ => rfl).trans (List.map_id v)
def cfL : PV → PV → Int
  | .list a, .list b => cmpL (a.map pvi) (b.map pvi)
  | _, _ => 0
theorem cfL_il (v w : List Int) : cfL (.list (il v)) (.list (il w)) = cmpL v w := by
  show cmpL ((il v).map pvi) ((il w).map pvi) = _
  rw [pvi_il, pvi_il]
theorem mem_ll {x : PV} {ls : List (List Int)} (h : x ∈ ll ls) : ∃ v ∈ ls, x = .list (il v) := by
  obtain ⟨v, hv, rfl⟩ := List.mem_map.1 h
  exact ⟨v, hv, rfl⟩

theorem sortL_c {xs ys : List (List Int)} (hne : xs ≠ []) (hl : xs.length ≤ 1000000) (hr : ∀ v ∈ xs, v.length ≤ 1000000) (hperm : xs.Perm ys) (hs : ys.Pairwise fun v w => cmpL v w < 0) :
    FnM Tryd.prog 91 [.sl 0 0 (ll xs).length, .p (.fn 92 [])] [.own (opl (ll xs))] (.p (.tup [])) [.own (opl (ll ys))] :=
  sort_m Go.Proofs.Tryd.sortL (ll xs) (ll ys) cfL (fun h => hne (by cases xs with
      | nil => rfl
      | cons a r => cases h)) (fun x hx => by obtain ⟨v, _, rfl⟩ := mem_ll hx; rfl)
    (fun x hx => by obtain ⟨v, _, rfl⟩ := mem_ll hx; rw [cfL_il, cmpL_self]; decide)
    (fun x hx y hy z hz h1 h2 => by
      obtain ⟨u, _, rfl⟩ := mem_ll hx; obtain ⟨v, _, rfl⟩ := mem_ll hy; obtain ⟨w, _, rfl⟩ := mem_ll hz
      rw [cfL_il] at *; exact cmpL_trans _ _ _ h1 h2)
    (fun x hx y hy z hz h1 h2 => by
      obtain ⟨u, _, rfl⟩ := mem_ll hx; obtain ⟨v, _, rfl⟩ := mem_ll hy; obtain ⟨w, _, rfl⟩ := mem_ll hz
      rw [cfL_il] at *; exact cmpL_ntrans _ _ _ h1 h2)
    (fun x hx y hy h1 h2 => by
      obtain ⟨u, _, rfl⟩ := mem_ll hx; obtain ⟨v, _, rfl⟩ := mem_ll hy
      rw [cfL_il] at *; rw [cmpL_tot _ _ h1 h2])
    (fun x hx y hy => by
      obtain ⟨u, hu, rfl⟩ := mem_ll hx; obtain ⟨v, hv, rfl⟩ := mem_ll hy
      rw [cfL_il]; have h1 := hr u hu; have h2 := hr v hv; exact compareL_c u v (by omega) (by omega))
    (hperm.map _) (by
      unfold ll
      rw [List.pairwise_map]
      exact hs.imp fun {x y} hxy h2 => by
        rw [cfL_il] at h2
        have := cmpL_trans _ _ _ hxy h2
        rw [cmpL_self] at this; exact absurd this (by decide)) (by rw [ll_length]; omega)

theorem syAll_no (N : Int) (m : List Int) (p : Int) (hm : m.length ≤ 1000000000000000) (hf : ¬ (syf N m p).1 = 0) : FnC Tryd.prog 45 [gp N m, .int .i64 p] (.tup [.list (ll []), fl (syf N m p)]) := by
  refine fnc_of tab_ok Tryd.func45 rfl (by kernel_rfl) (by rw [Tryd.ntmps45]; exact Nat.le_add_left 2 _) ?_; rw [Tryd.ntmps45]
  refine qm ?_
  refine hk_region fun K hK => runs_eval tab_ok ?_
  simp only [ev0, evA, evB, evP, fl, gp, tab, simprocAttr, reduceCtorEq, reduceIte]
  refine fin_run ?_ (hK _ ?_) <;> clear hK <;> clear K
  · (first | exact trivial | omega | (simp only [In64] at *; omega) | (simp [In64] at *; omega) | (simp_all; done) | skip)
  refine qa (qm (qm ?_))
  refine hk_region fun K hK => runs_eval tab_ok ?_
  simp only [ev0, evA, evB, evP, fl, gp, tab, simprocAttr, reduceCtorEq, reduceIte]
  refine fin_stop trivial (runs_call (slook_c N m p hm) rfl rfl rfl (by simp only [dstOk, Nat.reduceLT]) (by repeat (first | exact trivial | constructor)) (runs_eval tab_ok ?_))
  simp only [ev0, evA, evB, evP, fl, gp, tab, simprocAttr, reduceCtorEq, reduceIte]
  refine fin_run ?_ (hK _ ?_) <;> clear hK <;> clear K
  · (first | exact trivial | omega | (simp only [In64] at *; omega) | (simp [In64] at *; omega) | (simp_all; done) | skip)
  refine qa (qm ?_)
  refine hk_region fun K hK => runs_eval tab_ok ?_
  simp only [ev0, evA, evB, evP, fl, gp, tab, simprocAttr, reduceCtorEq, reduceIte]
  refine fin_run ?_ (hK _ ?_) <;> clear hK <;> clear K
  · (first | exact trivial | omega | (simp only [In64] at *; omega) | (simp [In64] at *; omega) | (simp_all; done) | skip)
  refine qa ?_
  refine hk_cond rfl (fun hC1 => ?_) (fun hC1 => ?_)
  · (try simp only [nhs] at hC1)
    refine qm ?_
    refine hk_draw mixed (by kernel_rfl) fun K hK => runs_eval tab_ok ?_
    simp only [ev0, evA, evB, evP, fl, gp, tab, simprocAttr, reduceCtorEq, reduceIte]
    refine fin_run ?_ (hK _ ?_) <;> clear hK <;> clear K
    · (first | exact trivial | omega | (simp only [In64] at *; omega) | (simp [In64] at *; omega) | (simp_all; done) | skip)
    refine qa (qk (qb ?_))
    simp only [Tryd.results45, enA, ev0, evA, evB, evP, fl, gp, tab, simprocAttr, reduceCtorEq, reduceIte]
    all_goals ((first | exact rfl | exact ⟨rfl, rfl⟩ | exact ⟨rfl, rfl, rfl⟩ | exact ⟨trivial, rfl⟩ | exact ⟨Nat.le_refl _, rfl⟩ | trivial | (simp; done)))
  · (try simp only [nhs] at hC1)
    exact absurd hC1 (by simpa using hf)

section
variable {n e P : Nat} {m : List Int}
/-- Keys that have been laid. -/
def kys (n : Nat) (f : Nat → Nat → Nat) (e : Nat) (s : Nat → Bool) (a : Nat) : List Int := (List.range a).map fun b => ((bo n (shf n f e s b) : Nat) : Int)
theorem kys_succ (n : Nat) (f : Nat → Nat → Nat) (e : Nat) (s : Nat → Bool) (a : Nat) : kys n f e s (a + 1) = kys n f e s a ++ [((bo n (shf n f e s a) : Nat) : Int)] := by
  simp [kys, List.range_succ]

set_option maxHeartbeats 4000000 in
set_option maxRecDepth 100000 in
theorem syAll_ok (h : GT n m n e) (hP : isPr P) {K : Nat} (hK1 : fst' (swc n (op m n) e P (swq n (op m n) e P K)) n = none) (hK2 : ∀ k, k < K → ¬ fst' (swc n (op m n) e P (swq n (op m n) e P k)) n = none)
    {SL : List Nat} (hS : SyS n (op m n) e (swq n (op m n) e P K) SL) : FnC Tryd.prog 45 [gp n m, .int .i64 P] (.tup [.list (ll (sql SL)), fl (0, 0)]) := by
  have G := h.2.2
  have hb := h.2.1.big
  have hml := h.2.1.len
  have hsq := sq_le hb
  have hone := syOne_c h hP hK1 hK2
  generalize swq n (op m n) e P K = s at hS hone
  have hKl : ∀ a, (kys n (op m n) e s a).length = a := fun a => by simp [kys]
  refine fnc_of tab_ok Tryd.func45 rfl (by kernel_rfl) (by rw [Tryd.ntmps45]; exact Nat.le_add_left 2 _) ?_; rw [Tryd.ntmps45]
  refine qm ?_
  refine hk_region fun K hK => runs_eval tab_ok ?_
  simp only [ev0, evA, evB, evP, fl, gp, tab, simprocAttr, reduceCtorEq, reduceIte]
  refine fin_run ?_ (hK _ ?_) <;> clear hK <;> clear K
  · (first | exact trivial | omega | (simp only [In64] at *; omega) | (simp [In64] at *; omega) | (simp_all; done) | skip)
  refine qa (qm (qm ?_))
  refine hk_region fun K hK => runs_eval tab_ok ?_
  simp only [ev0, evA, evB, evP, fl, gp, tab, simprocAttr, reduceCtorEq, reduceIte]
  refine fin_stop trivial (runs_call (slook_c n m P (by omega)) rfl rfl rfl (by simp only [dstOk, Nat.reduceLT]) (by repeat (first | exact trivial | constructor)) (runs_eval tab_ok ?_))
  simp only [ev0, evA, evB, evP, fl, gp, tab, simprocAttr, reduceCtorEq, reduceIte, syf_of h hP]
  refine fin_run ?_ (hK _ ?_) <;> clear hK <;> clear K
  · (first | exact trivial | omega | (simp only [In64] at *; omega) | (simp [In64] at *; omega) | (simp_all; done) | skip)
  refine qa (qm ?_)
  refine hk_region fun K hK => runs_eval tab_ok ?_
  simp only [ev0, evA, evB, evP, fl, gp, tab, simprocAttr, reduceCtorEq, reduceIte]
  refine fin_run ?_ (hK _ ?_) <;> clear hK <;> clear K
  · (first | exact trivial | omega | (simp only [In64] at *; omega) | (simp [In64] at *; omega) | (simp_all; done) | skip)
  refine qa ?_
  refine hk_cond rfl (fun hC1 => ?_) (fun hC1 => ?_)
  · cases hC1
  · (try simp only [nhs] at hC1)
    refine qh (qa (qm ?_))
    refine hk_region fun K hK => runs_eval tab_ok ?_
    simp only [ev0, evA, evB, evP, fl, gp, tab, simprocAttr, reduceCtorEq, reduceIte]
    refine fin_stop trivial (runs_call (hone) rfl rfl rfl (by simp only [dstOk, Nat.reduceLT]) (by repeat (first | exact trivial | constructor)) (runs_eval tab_ok ?_))
    simp only [ev0, evA, evB, evP, fl, gp, tab, simprocAttr, reduceCtorEq, reduceIte]
    refine fin_run ?_ (hK _ ?_) <;> clear hK <;> clear K
    · (first | exact trivial | omega | (simp only [In64] at *; omega) | (simp [In64] at *; omega) | (simp_all; done) | skip)
    refine qa (qm ?_)
    refine hk_region fun K hK => runs_eval tab_ok ?_
    simp only [ev0, evA, evB, evP, fl, gp, tab, simprocAttr, reduceCtorEq, reduceIte]
    refine fin_run ?_ (hK _ ?_) <;> clear hK <;> clear K
    · (first | exact trivial | omega | (simp only [In64] at *; omega) | (simp [In64] at *; omega) | (simp_all; done) | skip)
    refine qa (qm (qm ?_))
    refine hk_region fun K hK => runs_eval tab_ok ?_
    simp only [ev0, evA, evB, evP, fl, gp, tab, simprocAttr, reduceCtorEq, reduceIte]
    refine fin_run ?_ (hK _ ?_) <;> clear hK <;> clear K
    · (first | exact trivial | omega | (simp only [In64] at *; omega) | (simp [In64] at *; omega) | (simp_all; done) | skip)
    refine qa (ql ?_)
    refine hk_loop (ι := Nat) (fun a => ⟨49, [(2, .ptr 0 0), (5, .ptr 1 0), (7, .p (.int .u64 (bo n s))), (8, .mptr 2), (24, .p (.int .i64 n)), (25, .p (.int .i64 a))], [.own [.p (.int .i64 n), .p (.list (il m))], .own [.p (.int .i64 0), .p (.int .i64 0)], .mp .u64 (mpd (kys n (op m n) e s a)) (mpv (kys n (op m n) e s a) tru)]⟩) (fun a => a ≤ n) (fun a => n - a) 0 (Nat.zero_le _) [0, 1, 3] (by rw [show kys n (op m n) e s 0 = [] from rfl, ← mpd_nil, ← mpv_nil]; simp only [leq, leA, ev0, evA, evB, evP, fl, gp, tab, simprocAttr, reduceCtorEq, reduceIte] <;> first | trivial | exact ⟨rfl, rfl⟩) fun a ha => ?_
    refine qm ?_
    refine hk_region fun K hK => runs_eval tab_ok ?_
    simp only [ev0, evA, evB, evP, fl, gp, tab, simprocAttr, reduceCtorEq, reduceIte]
    refine fin_run trivial (hK _ ?_) <;> clear hK <;> clear K
    refine qa (qm ?_)
    refine hk_cond rfl (fun hC2 => ?_) (fun hC2 => ?_)
    · (try simp only [nhs] at hC2)
      have hal : a < n := by omega
      have hd1 := mpd_set (kys n (op m n) e s a) ((bo n (shf n (op m n) e s a) : Nat) : Int)
      have hv1 := mpv_set (kys n (op m n) e s a) ((bo n (shf n (op m n) e s a) : Nat) : Int) tru
      refine qh (qa (qm (ql (qm ?_))))
      refine hk_region fun K hK => runs_eval tab_ok ?_
      simp only [ev0, evA, evB, evP, fl, gp, tab, simprocAttr, reduceCtorEq, reduceIte]
      refine fin_run trivial (hK _ ?_) <;> clear hK <;> clear K
      refine qa ?_
      refine hk_region fun K hK => runs_eval tab_ok ?_
      simp only [ev0, evA, evB, evP, fl, gp, tab, simprocAttr, reduceCtorEq, reduceIte]
      refine fin_stop trivial (runs_call (moved_s h s hal) rfl rfl rfl (by simp only [dstOk, Nat.reduceLT]) (by repeat (first | exact trivial | constructor)) (runs_eval tab_ok ?_))
      simp only [ev0, evA, evB, evP, fl, gp, tab, simprocAttr, reduceCtorEq, reduceIte]
      refine fin_run ?_ (hK _ ?_) <;> clear hK <;> clear K
      · (first | exact trivial | omega | (simp only [In64] at *; omega) | (simp [In64] at *; omega) | (simp_all; done) | skip)
      refine qd (qa ?_)
      refine hk_region fun K hK => runs_eval tab_ok ?_
      simp only [ev0, evA, evB, evP, fl, gp, tab, simprocAttr, reduceCtorEq, reduceIte]
      refine fin_run ?_ (hK _ ?_) <;> clear hK <;> clear K
      · (first | exact trivial | omega | (simp only [In64] at *; omega) | (simp [In64] at *; omega) | (simp_all; done) | skip)
      refine qa ?_
      refine ⟨a + 1, [0, 1, 2], by omega, by omega, ?_⟩
      rw [kys_succ]
      simp only [← hd1, ← hv1]
      simp only [leq, leA, ev0, evA, evB, evP, fl, gp, tab, simprocAttr, reduceCtorEq, reduceIte] <;> first | trivial | omega | exact ⟨rfl, rfl⟩
    · (try simp only [nhs] at hC2)
      have han : a = n := by omega
      subst han
      refine qj (qc (qc (qf (qa (qm ?_)))))
      refine hk_region fun K hK => runs_eval tab_ok ?_
      simp only [ev0, evA, evB, evP, fl, gp, tab, simprocAttr, reduceCtorEq, reduceIte]
      refine fin_run trivial (hK _ ?_) <;> clear hK <;> clear K
      refine qa (qm ?_)
      refine hk_own0 10 rfl ?_
      refine hk_range tab_ok rfl rfl rfl rfl (fun r L => ⟨49, [(5, .ptr 0 0), (10, .sl 1 0 (slz L).length), (35, .itv r)], [.own [.p (.int .i64 0), .p (.int .i64 0)], .own (opl (ll (slz L)))]⟩) [1, 3] rfl (fun _ _ => ⟨rfl, rfl⟩) (fun r => ?_) (fun r L z hLn hLd hz hzL => ?_) fun r L hLn hall => ?_
      · simp only [leq, leA, ev0, evA, evB, evP, fl, gp, tab, simprocAttr, reduceCtorEq, reduceIte] <;> trivial
      · obtain ⟨b, hb2, hzb⟩ := List.mem_map.1 (of_decide_eq_true hz)
        subst hzb
        have hL1 : (slz L).length ≤ a := by
          rw [slz_len, ← hKl a]
          exact List.Nodup.length_le_of_subset hLn fun y hy => of_decide_eq_true (hLd y hy)
        refine hk_region fun K hK => runs_eval tab_ok ?_
        simp only [ev0, evA, evB, evP, fl, gp, tab, simprocAttr, reduceCtorEq, reduceIte, ll_takeL, oll_ok, ll_snoc]
        refine fin_stop trivial (runs_call (list_s (bo a (shf a (op m a) e s b)) (bo_lt64 hb _)) rfl rfl rfl (by simp only [dstOk, Nat.reduceLT]) (by repeat (first | exact trivial | constructor)) (runs_eval tab_ok ?_))
        simp only [ev0, evA, evB, evP, fl, gp, tab, simprocAttr, reduceCtorEq, reduceIte, ll_takeL, oll_ok, ll_snoc]
        refine fin_run ?_ (hK _ ?_) <;> clear hK <;> clear K
        · first | (simp [cellOk, PV.one]; done) | (simp [cellOk, PV.one]; omega)
        refine qd (qa ?_)
        refine ⟨[0, 2], ?_⟩
        rw [slz_snoc, Int.toNat_natCast]
        simp only [leq, leA, ev0, evA, evB, evP, fl, gp, tab, simprocAttr, reduceCtorEq, reduceIte, ll_takeL, ll_snoc, ll_takeS] <;> first | trivial | omega | (simp [ll]; done)
      · have hmem : ∀ z : Int, z ∈ L ↔ ∃ x : Nat, x ∈ SL ∧ z = (x : Int) := fun z => by
          rw [← hall z]
          constructor
          · intro hz
            obtain ⟨b, hb2, hzb⟩ := List.mem_map.1 (of_decide_eq_true hz)
            exact ⟨_, (hS.all _).2 ⟨b, List.mem_range.1 hb2, rfl⟩, hzb.symm⟩
          · rintro ⟨x, hx, rfl⟩
            obtain ⟨b, hb2, rfl⟩ := (hS.all _).1 hx
            exact decide_eq_true (List.mem_map.2 ⟨b, List.mem_range.2 hb2, rfl⟩)
        have hp1 : (L.map Int.toNat).Perm SL := (List.perm_ext_iff_of_nodup (nodup_map hLn fun x hx y hy hxy => by
          obtain ⟨x', _, rfl⟩ := (hmem x).1 hx
          obtain ⟨y', _, rfl⟩ := (hmem y).1 hy
          rw [Int.toNat_natCast, Int.toNat_natCast] at hxy
          rw [hxy]) hS.nodup).2 fun x => by
            rw [List.mem_map]
            constructor
            · rintro ⟨z, hz, rfl⟩
              obtain ⟨x', hx', rfl⟩ := (hmem z).1 hz
              rwa [Int.toNat_natCast]
            · exact fun hx => ⟨(x : Int), (hmem _).2 ⟨x, hx, rfl⟩, Int.toNat_natCast x⟩
        have hperm : (slz L).Perm (sql SL) := by
          have := hp1.map stl
          rw [List.map_map] at this
          exact this
        have hlen2 := hperm.length_eq
        have hSl := hS.len
        have hSp := hS.pos G
        have hsl := sql_len SL
        have hsort := sortL_c (xs := slz L) (ys := sql SL) (fun hh => by rw [hh] at hlen2; simp at hlen2; omega) (by omega) (fun v hv => by
          obtain ⟨x, hx, rfl⟩ := List.mem_map.1 (hperm.mem_iff.1 hv)
          obtain ⟨b, _, rfl⟩ := (hS.all _).1 hx
          rw [stl_bo hb]
          have := thl_le a (shf a (op m a) e s b)
          omega) hperm (by
          unfold sql
          rw [List.pairwise_map]
          exact hS.rise)
        rw [ll_length] at hsort
        refine qa (qm ?_)
        refine hk_region fun K hK => runs_eval tab_ok ?_
        simp only [ev0, evA, evB, evP, fl, gp, tab, simprocAttr, reduceCtorEq, reduceIte]
        refine fin_stop ?_ (runs_callM [1] (hsort) rfl rfl ?_ (by simp only [leA, ev0, evA, evB, evP, fl, gp, tab, simprocAttr, reduceCtorEq, reduceIte]; first | trivial | (simp only [ll_takeL]; first | trivial | (repeat constructor; done)) | (repeat constructor)) (by decide) (by first | rfl | (simp only [List.length_cons, List.length_nil, List.length_append]; decide)) (by first | rfl | (simp only [scM, opl_sc, List.all_cons, List.all_nil, List.length_cons, List.length_nil]; first | rfl | decide) | (simp [scM, scA, sc1, mpKeep, notAnc]; done)) (by simp only [dstOk, Nat.reduceLT]) (runs_eval tab_ok ?_))
        · first | (simp only [ll_takeL]; done) | (simp only [leA, ev0, evA, evB, evP, fl, gp, tab, simprocAttr, reduceCtorEq, reduceIte, ll_takeL]; first | trivial | (repeat constructor)) | (first | exact trivial | omega | (simp only [In64] at *; omega) | (simp [In64] at *; omega) | (simp_all; done) | skip)
        · (simp only [argsM, argM1, peekG, peekS, scA, sc1, ren, ren1, List.map_cons, List.map_nil, List.append_nil, List.cons_append, List.nil_append, enA, ev0, evA, evB, evP, fl, gp, tab, simprocAttr, reduceCtorEq, reduceIte]; try trivial)
        simp only [putM, hset, List.range', Blk.ren, ren, ren1, List.map_cons, List.map_nil, List.cons_append, List.nil_append, List.append_nil, List.length_cons, List.length_nil, ev0, evA, evB, evP, fl, gp, tab, simprocAttr, reduceCtorEq, reduceIte]
        refine fin_run trivial (hK _ ?_) <;> clear hK <;> clear K
        refine qa (qm ?_)
        rw [hlen2, ← ll_length (sql SL)]
        refine hk_sealp 10 1 (ll_all _) rfl rfl ?_
        refine hk_region fun K hK => runs_eval tab_ok ?_
        simp only [ev0, evA, evB, evP, fl, gp, tab, simprocAttr, reduceCtorEq, reduceIte]
        refine fin_run ?_ (hK _ ?_) <;> clear hK <;> clear K
        · (first | exact trivial | omega | (simp only [In64] at *; omega) | (simp [In64] at *; omega) | (simp_all; done) | skip)
        refine qa (qk ?_)
        simp only [Tryd.results45, enA, ev0, evA, evB, evP, fl, gp, tab, simprocAttr, reduceCtorEq, reduceIte]
        all_goals ((first | exact rfl | exact ⟨rfl, rfl⟩ | exact ⟨rfl, rfl, rfl⟩ | exact ⟨trivial, rfl⟩ | exact ⟨Nat.le_refl _, rfl⟩ | trivial | (simp; done)))
end
end Go.Proofs.YtjikchbmkodgfaaDoor

/-
  What all of Sylow's subgroups have; the document's example; numbers of a power of p. Conditions: none.
-/
set_option linter.all false
namespace Go.Proofs.YtjikchbmkodgfaaDoor
open Go.Pv

theorem syCore_no (N : Int) (m : List Int) (p : Int) (hm : m.length ≤ 1000000000000000) (hf : ¬ (syf N m p).1 = 0) : FnC Tryd.prog 47 [gp N m, .int .i64 p] (.tup [.list [], fl (syf N m p)]) := by
  refine fnc_of tab_ok Tryd.func47 rfl (by kernel_rfl) (by rw [Tryd.ntmps47]; exact Nat.le_add_left 2 _) ?_; rw [Tryd.ntmps47]
  refine qm ?_
  refine hk_region fun K hK => runs_eval tab_ok ?_
  simp only [ev0, evA, evB, evP, fl, gp, tab, simprocAttr, reduceCtorEq, reduceIte]
  refine fin_run ?_ (hK _ ?_) <;> clear hK <;> clear K
  · (first | exact trivial | omega | (simp only [In64] at *; omega) | (simp [In64] at *; omega) | (simp_all; done) | skip)
  refine qa (qm ?_)
  refine hk_region fun K hK => runs_eval tab_ok ?_
  simp only [ev0, evA, evB, evP, fl, gp, tab, simprocAttr, reduceCtorEq, reduceIte]
  refine fin_stop trivial (runs_call (syAll_no N m p hm hf) rfl rfl rfl (by simp only [dstOk, Nat.reduceLT]) (by repeat (first | exact trivial | constructor)) (runs_eval tab_ok ?_))
  simp only [ev0, evA, evB, evP, fl, gp, tab, simprocAttr, reduceCtorEq, reduceIte]
  refine fin_run ?_ (hK _ ?_) <;> clear hK <;> clear K
  · (first | exact trivial | omega | (simp only [In64] at *; omega) | (simp [In64] at *; omega) | (simp_all; done) | skip)
  refine qa (qm (qm ?_))
  refine hk_region fun K hK => runs_eval tab_ok ?_
  simp only [ev0, evA, evB, evP, fl, gp, tab, simprocAttr, reduceCtorEq, reduceIte]
  refine fin_run ?_ (hK _ ?_) <;> clear hK <;> clear K
  · (first | exact trivial | omega | (simp only [In64] at *; omega) | (simp [In64] at *; omega) | (simp_all; done) | skip)
  refine qa ?_
  refine hk_cond rfl (fun hC1 => ?_) (fun hC1 => ?_)
  · (try simp only [nhs] at hC1)
    refine qm ?_
    refine hk_draw mixed (by kernel_rfl) fun K hK => runs_eval tab_ok ?_
    simp only [ev0, evA, evB, evP, fl, gp, tab, simprocAttr, reduceCtorEq, reduceIte]
    refine fin_run ?_ (hK _ ?_) <;> clear hK <;> clear K
    · (first | exact trivial | omega | (simp only [In64] at *; omega) | (simp [In64] at *; omega) | (simp_all; done) | skip)
    refine qa (qk (qb ?_))
    simp only [Tryd.results47, enA, ev0, evA, evB, evP, fl, gp, tab, simprocAttr, reduceCtorEq, reduceIte]
    all_goals ((first | exact rfl | exact ⟨rfl, rfl⟩ | exact ⟨rfl, rfl, rfl⟩ | exact ⟨trivial, rfl⟩ | exact ⟨Nat.le_refl _, rfl⟩ | trivial | (simp; done)))
  · (try simp only [nhs] at hC1)
    exact absurd hC1 (by simpa using hf)

section
variable {n e P : Nat} {m : List Int}
/-- What the sets have, up to a place. -/
def cor (SL : List Nat) (i y : Nat) : Bool := (SL.getD 0 0).testBit y && decide (∀ j, j < i → (SL.getD j 0).testBit y = true)
theorem cor_succ (SL : List Nat) (i y : Nat) : cor SL (i + 1) y = (cor SL i y && (SL.getD i 0).testBit y) := by
  unfold cor
  rw [Bool.and_assoc]
  congr 1
  rw [Bool.eq_iff_iff, Bool.and_eq_true, decide_eq_true_eq, decide_eq_true_eq]
  constructor
  · exact fun h => ⟨fun b hb => h b (by omega), h i (by omega)⟩
  · rintro ⟨h1, h2⟩ b hb
    by_cases hba : b = i
    · rw [hba]; exact h2
    · exact h1 b (by omega)
theorem getD_memK {L : List Nat} {j : Nat} (hj : j < L.length) : L.getD j 0 ∈ L := by
  rw [List.getD_eq_getElem?_getD, List.getElem?_eq_getElem hj]; exact List.getElem_mem hj
theorem SyS.at {f : Nat → Nat → Nat} {s : Nat → Bool} {SL : List Nat} (h : SyS n f e s SL) (hn : n ≤ 60) {i : Nat} (hi : i < SL.length) : ∃ a, a < n ∧ SL.getD i 0 = bo n (shf n f e s a) ∧ (sql SL).getD i [] = thl n (shf n f e s a) := by
  obtain ⟨a, h1, h2⟩ := (h.all _).1 (getD_memK hi)
  exact ⟨a, h1, h2, by rw [sql_get hi, h2, stl_bo hn]⟩
theorem SyS.idx {f : Nat → Nat → Nat} {s : Nat → Bool} {SL : List Nat} (h : SyS n f e s SL) (hn : n ≤ 60) {a : Nat} (ha : a < n) : ∃ i, i < SL.length ∧ SL.getD i 0 = bo n (shf n f e s a) ∧ (sql SL).getD i [] = thl n (shf n f e s a) := by
  obtain ⟨i, h1, h2⟩ := List.getElem_of_mem ((h.all _).2 ⟨a, ha, rfl⟩)
  have h3 : SL.getD i 0 = bo n (shf n f e s a) := by rw [List.getD_eq_getElem?_getD, List.getElem?_eq_getElem h1, Option.getD_some, h2]
  exact ⟨i, h1, h3, by rw [sql_get h1, h3, stl_bo hn]⟩
theorem SyS.cor {f : Nat → Nat → Nat} {s : Nat → Bool} {SL : List Nat} (h : SyS n f e s SL) (G : Grp n f e) (hn : n ≤ 60) {y : Nat} (hy : y < n) : Go.Proofs.YtjikchbmkodgfaaDoor.cor SL SL.length y = crp n f e s y := by
  have hp := h.pos G
  have hb : ∀ p : Nat → Bool, (bo n p).testBit y = p y := fun p => by rw [bo_bit]; simp [hy]
  rw [Bool.eq_iff_iff, G.crp_back hy]
  unfold Go.Proofs.YtjikchbmkodgfaaDoor.cor
  rw [Bool.and_eq_true, decide_eq_true_eq]
  constructor
  · rintro ⟨_, h2⟩
    have h3 : ∀ a, a < n → shf n f e s a y = true := fun a ha => by
      obtain ⟨i, i1, i2, _⟩ := h.idx hn ha
      have := h2 i i1
      rwa [i2, hb] at this
    refine ⟨?_, h3⟩
    have := h3 e G.el
    rw [G.shf_back G.el hy, G.iv_one, G.cjr_e hy] at this
    exact this
  · rintro ⟨_, h2⟩
    have h3 : ∀ i, i < SL.length → (SL.getD i 0).testBit y = true := fun i hi => by
      obtain ⟨a, a1, a2, _⟩ := h.at hn hi
      rw [a2, hb]; exact h2 a a1
    exact ⟨h3 0 hp, h3⟩

theorem syCore_ok (h : GT n m n e) {s : Nat → Bool} {SL : List Nat} (hS : SyS n (op m n) e s SL) (hA : FnC Tryd.prog 45 [gp n m, .int .i64 P] (.tup [.list (ll (sql SL)), fl (0, 0)])) : FnC Tryd.prog 47 [gp n m, .int .i64 P] (.tup [.list (il (thl n (crp n (op m n) e s))), fl (0, 0)]) := by
  have G := h.2.2
  have hb := h.2.1.big
  have hpos := hS.pos G
  have hsl := sql_len SL
  have hSl := hS.len
  obtain ⟨b0, hb0, hv0, hr0⟩ := hS.at hb hpos
  have hg0 := ll_get (ls := sql SL) (i := 0) (by omega)
  rw [hr0] at hg0
  have hl0 := thl_le n (shf n (op m n) e s b0)
  have h0 : bo n (shf n (op m n) e s b0) = bo n (cor SL 0) := bo_congr fun y hy => by
    unfold cor
    rw [hv0, bo_bit]; simp [hy]
  refine fnc_of tab_ok Tryd.func47 rfl (by kernel_rfl) (by rw [Tryd.ntmps47]; exact Nat.le_add_left 2 _) ?_; rw [Tryd.ntmps47]
  refine qm ?_
  refine hk_region fun K hK => runs_eval tab_ok ?_
  simp only [ev0, evA, evB, evP, fl, gp, tab, simprocAttr, reduceCtorEq, reduceIte]
  refine fin_run ?_ (hK _ ?_) <;> clear hK <;> clear K
  · (first | exact trivial | omega | (simp only [In64] at *; omega) | (simp [In64] at *; omega) | (simp_all; done) | skip)
  refine qa (qm ?_)
  refine hk_region fun K hK => runs_eval tab_ok ?_
  simp only [ev0, evA, evB, evP, fl, gp, tab, simprocAttr, reduceCtorEq, reduceIte]
  refine fin_stop trivial (runs_call (hA) rfl rfl rfl (by simp only [dstOk, Nat.reduceLT]) (by repeat (first | exact trivial | constructor)) (runs_eval tab_ok ?_))
  simp only [ev0, evA, evB, evP, fl, gp, tab, simprocAttr, reduceCtorEq, reduceIte]
  refine fin_run ?_ (hK _ ?_) <;> clear hK <;> clear K
  · (first | exact trivial | omega | (simp only [In64] at *; omega) | (simp [In64] at *; omega) | (simp_all; done) | skip)
  refine qa (qm (qm ?_))
  refine hk_region fun K hK => runs_eval tab_ok ?_
  simp only [ev0, evA, evB, evP, fl, gp, tab, simprocAttr, reduceCtorEq, reduceIte]
  refine fin_run ?_ (hK _ ?_) <;> clear hK <;> clear K
  · (first | exact trivial | omega | (simp only [In64] at *; omega) | (simp [In64] at *; omega) | (simp_all; done) | skip)
  refine qa ?_
  refine hk_cond rfl (fun hC1 => ?_) (fun hC1 => ?_)
  · cases hC1
  · (try simp only [nhs] at hC1)
    refine qh (qa (qm ?_))
    refine hk_region fun K hK => runs_eval tab_ok ?_
    simp only [ev0, evA, evB, evP, fl, gp, tab, simprocAttr, reduceCtorEq, reduceIte, hg0, ll_length, hsl]
    refine fin_stop ?_ (runs_call (of_s (thl n (shf n (op m n) e s b0)) (by omega) (thl_rng hb _)) rfl rfl rfl (by simp only [dstOk, Nat.reduceLT]) (by repeat (first | exact trivial | constructor)) (runs_eval tab_ok ?_))
    · omega
    simp only [ev0, evA, evB, evP, fl, gp, tab, simprocAttr, reduceCtorEq, reduceIte, msk_thl, hg0, ll_length, hsl]
    refine fin_run ?_ (hK _ ?_) <;> clear hK <;> clear K
    · (first | exact trivial | omega | (simp only [In64] at *; omega) | (simp [In64] at *; omega) | (simp_all; done) | skip)
    refine qa (qm (qm ?_))
    refine hk_region fun K hK => runs_eval tab_ok ?_
    simp only [ev0, evA, evB, evP, fl, gp, tab, simprocAttr, reduceCtorEq, reduceIte, ll_length, hsl]
    refine fin_run trivial (hK _ ?_) <;> clear hK <;> clear K
    refine qa (ql ?_)
    refine hk_loop (ι := Nat) (fun i => ⟨39, [(5, .ptr 0 0), (7, .ptr 1 0), (8, .p (.int .u64 (bo n (cor SL i)))), (25, .p (.list (ll (sql SL)))), (26, .p (.int .i64 SL.length)), (27, .p (.int .i64 i))], [.own [.p (.int .i64 0), .p (.int .i64 0)], .own [.p (.int .i64 0), .p (.int .i64 0)]]⟩) (fun i => i ≤ SL.length) (fun i => SL.length - i) 0 (Nat.zero_le _) [1, 2] (by rw [← h0]; simp only [leq, leA, ev0, evA, evB, evP, fl, gp, tab, simprocAttr, reduceCtorEq, reduceIte] <;> trivial) fun i hi => ?_
    refine qm ?_
    refine hk_region fun K hK => runs_eval tab_ok ?_
    simp only [ev0, evA, evB, evP, fl, gp, tab, simprocAttr, reduceCtorEq, reduceIte]
    refine fin_run trivial (hK _ ?_) <;> clear hK <;> clear K
    refine qa (qm ?_)
    refine hk_cond rfl (fun hC2 => ?_) (fun hC2 => ?_)
    · (try simp only [nhs] at hC2)
      have hlt : i < SL.length := by omega
      obtain ⟨b, hbl, hv, hr⟩ := hS.at hb hlt
      have hg := ll_get (ls := sql SL) (i := i) (by omega)
      rw [hr] at hg
      have hl := thl_le n (shf n (op m n) e s b)
      have hb1 := bo_lt64 hb (cor SL i)
      have hb2 := bo_lt64 hb (shf n (op m n) e s b)
      have hs1 : bo n (cor SL (i + 1)) = bo n fun y => cor SL i y && shf n (op m n) e s b y := bo_congr fun y hy => by
        rw [cor_succ, hv, bo_bit]; simp [hy]
      refine qh (qa (qm (ql (qm ?_))))
      refine hk_region fun K hK => runs_eval tab_ok ?_
      simp only [ev0, evA, evB, evP, fl, gp, tab, simprocAttr, reduceCtorEq, reduceIte, hg, ll_length, hsl]
      refine fin_run ?_ (hK _ ?_) <;> clear hK <;> clear K
      · (first | exact trivial | omega | (simp only [In64] at *; omega) | (simp [In64] at *; omega) | (simp_all; done) | skip)
      refine qa ?_
      refine hk_region fun K hK => runs_eval tab_ok ?_
      simp only [ev0, evA, evB, evP, fl, gp, tab, simprocAttr, reduceCtorEq, reduceIte]
      refine fin_stop trivial (runs_call (of_s (thl n (shf n (op m n) e s b)) (by omega) (thl_rng hb _)) rfl rfl rfl (by simp only [dstOk, Nat.reduceLT]) (by repeat (first | exact trivial | constructor)) (runs_eval tab_ok ?_))
      simp only [ev0, evA, evB, evP, fl, gp, tab, simprocAttr, reduceCtorEq, reduceIte, msk_thl, bv_and hb1 hb2, bo_and]
      refine fin_run ?_ (hK _ ?_) <;> clear hK <;> clear K
      · (first | exact trivial | omega | (simp only [In64] at *; omega) | (simp [In64] at *; omega) | (simp_all; done) | skip)
      refine qd (qa ?_)
      refine hk_region fun K hK => runs_eval tab_ok ?_
      simp only [ev0, evA, evB, evP, fl, gp, tab, simprocAttr, reduceCtorEq, reduceIte]
      refine fin_run ?_ (hK _ ?_) <;> clear hK <;> clear K
      · (first | exact trivial | omega | (simp only [In64] at *; omega) | (simp [In64] at *; omega) | (simp_all; done) | skip)
      refine qa ?_
      refine ⟨i + 1, [0, 1], by omega, by omega, ?_⟩
      rw [hs1]
      simp only [leq, leA, ev0, evA, evB, evP, fl, gp, tab, simprocAttr, reduceCtorEq, reduceIte] <;> first | trivial | omega
    · (try simp only [nhs] at hC2)
      have hin : i = SL.length := by omega
      have hfin : bo n (cor SL i) = bo n (crp n (op m n) e s) := bo_congr fun y hy => by rw [hin]; exact hS.cor G hb hy
      rw [hfin]
      refine qj (qc (qc (qf (qa (qm ?_)))))
      refine hk_draw mixed (by kernel_rfl) fun K hK => runs_eval tab_ok ?_
      simp only [ev0, evA, evB, evP, fl, gp, tab, simprocAttr, reduceCtorEq, reduceIte]
      refine fin_stop trivial (runs_call (list_s (bo n (crp n (op m n) e s)) (bo_lt64 hb _)) rfl rfl rfl (by simp only [dstOk, Nat.reduceLT]) (by repeat (first | exact trivial | constructor)) (runs_eval tab_ok ?_))
      simp only [ev0, evA, evB, evP, fl, gp, tab, simprocAttr, reduceCtorEq, reduceIte, stl_bo hb]
      refine fin_run ?_ (hK _ ?_) <;> clear hK <;> clear K
      · (first | exact trivial | omega | (simp only [In64] at *; omega) | (simp [In64] at *; omega) | (simp_all; done) | skip)
      refine qa (qk ?_)
      simp only [Tryd.results47, enA, ev0, evA, evB, evP, fl, gp, tab, simprocAttr, reduceCtorEq, reduceIte]
      all_goals ((first | exact rfl | exact ⟨rfl, rfl⟩ | exact ⟨rfl, rfl, rfl⟩ | exact ⟨trivial, rfl⟩ | exact ⟨Nat.le_refl _, rfl⟩ | trivial | (simp; done)))

/-- ALL THAT THE LAWS NEED. -/
theorem sy_ex (h : GT n m n e) (hP : isPr P) : ∃ (s : Nat → Bool) (SL : List Nat) (j t : Nat), Syl n (op m n) e P s j t ∧ SyS n (op m n) e s SL ∧
    FnC Tryd.prog 45 [gp n m, .int .i64 P] (.tup [.list (ll (sql SL)), fl (0, 0)]) := by
  obtain ⟨K, k1, k2⟩ := h.2.2.swq_stop (P := P)
  obtain ⟨j, t, hS⟩ := h.2.2.swq_syl hP k1
  obtain ⟨SL, hL⟩ := sys_ex n (op m n) e (swq n (op m n) e P K) h.2.1.big
  exact ⟨_, SL, j, t, hS, hL, syAll_ok h hP k1 k2 hL⟩

theorem begun_y : FnC Tryd.prog 40 [] (.bool true) := by
  obtain ⟨e, h⟩ := sq8_gt
  have hP : isPr 2 := by decide
  obtain ⟨s, SL, j, t, hY, hS, hA⟩ := sy_ex h hP
  have G := h.2.2
  have hnum := hS.num G hY.sub
  obtain ⟨hm1, hm2⟩ := hY.num_mod G hP hnum
  have hj : j = 3 ∧ t = 1 := by
    have h1 := hY.num
    have h2 := hY.non
    have hjl : j ≤ 3 := by
      refine Nat.le_of_not_lt fun hh => ?_
      have h3 : 2 ^ 4 ≤ 2 ^ j := Nat.pow_le_pow_right (by omega) hh
      have h4 : 0 < t := by
        rcases Nat.eq_zero_or_pos t with h | h
        · exact absurd (h ▸ Nat.dvd_zero 2) h2
        · exact h
      have h5 : 2 ^ j * 1 ≤ 2 ^ j * t := Nat.mul_le_mul_left _ h4
      omega
    have : j = 0 ∨ j = 1 ∨ j = 2 ∨ j = 3 := by omega
    rcases this with rfl | rfl | rfl | rfl
    · exact absurd ⟨4, by omega⟩ h2
    · exact absurd ⟨2, by omega⟩ h2
    · exact absurd ⟨1, by omega⟩ h2
    · exact ⟨rfl, by omega⟩
  obtain ⟨rfl, rfl⟩ := hj
  have hl1 : SL.length = 1 := Nat.dvd_one.1 hm2
  have hsl := sql_len SL
  obtain ⟨a, ha, hv, hr⟩ := hS.at (by omega) (show 0 < SL.length by omega)
  have hg := ll_get (ls := sql SL) (i := 0) (by omega)
  rw [hr] at hg
  have hlen : (thl 8 (shf 8 (op sq8 8) e s a)).length = 8 := by
    have h1 : (thl 8 (shf 8 (op sq8 8) e s a)).length = (mem 8 (shf 8 (op sq8 8) e s a)).length := thl_len _ _
    rw [h1, G.shf_len ha, hY.len]
  rw [hl1] at hsl
  refine fnc_of tab_ok Tryd.func40 rfl (by kernel_rfl) (by rw [Tryd.ntmps40]; exact Nat.le_add_left 0 _) ?_; rw [Tryd.ntmps40]
  refine qm ?_
  refine hk_region fun K hK => runs_eval tab_ok ?_
  simp only [ev0, evA, evB, evP, fl, gp, tab, simprocAttr, reduceCtorEq, reduceIte]
  refine fin_run trivial (hK _ ?_) <;> clear hK <;> clear K
  refine qa (qm ?_)
  refine hk_region fun K hK => runs_eval tab_ok ?_
  simp only [ev0, evA, evB, evP, fl, gp, tab, simprocAttr, reduceCtorEq, reduceIte]
  refine fin_stop trivial (runs_call (square_c) rfl rfl rfl (by simp only [dstOk, Nat.reduceLT]) (by repeat (first | exact trivial | constructor)) (runs_eval tab_ok ?_))
  simp only [ev0, evA, evB, evP, fl, gp, tab, simprocAttr, reduceCtorEq, reduceIte]
  refine fin_stop trivial (runs_call (hA) rfl rfl rfl (by simp only [dstOk, Nat.reduceLT]) (by repeat (first | exact trivial | constructor)) (runs_eval tab_ok ?_))
  simp only [ev0, evA, evB, evP, fl, gp, tab, simprocAttr, reduceCtorEq, reduceIte]
  refine fin_run ?_ (hK _ ?_) <;> clear hK <;> clear K
  · (first | exact trivial | omega | (simp only [In64] at *; omega) | (simp [In64] at *; omega) | (simp_all; done) | skip)
  refine qa (qm ?_)
  refine hk_region fun K hK => runs_eval tab_ok ?_
  simp only [ev0, evA, evB, evP, fl, gp, tab, simprocAttr, reduceCtorEq, reduceIte, hg, ll_length, hsl, il_length, hlen]
  refine fin_run ?_ (hK _ ?_) <;> clear hK <;> clear K
  · (first | exact trivial | omega | (simp only [In64] at *; omega) | (simp [In64] at *; omega) | (simp_all; done) | skip)
  refine qa (qk ?_)
  simp only [Tryd.results40, enA, ev0, evA, evB, evP, fl, gp, tab, simprocAttr, reduceCtorEq, reduceIte]
  all_goals (trace_state)
end
end Go.Proofs.YtjikchbmkodgfaaDoor

/-
  Walks: the law SylowCauchy. Conditions: none.
-/
set_option linter.all false
namespace Go.Proofs.YtjikchbmkodgfaaDoor
open Go.Pv

section
variable {n e P : Nat} {m : List Int}
theorem cauchy1_c (h : GT n m n e) {a : Nat} (ha : a < n) : FnC Tryd.prog 43 [.int .i64 a, .ptr [.int .i64 n, .list (il m)], .ptr [.int .i64 P]] (.bool (orp n (op m n) e P a)) := by
  refine fnc_of tab_ok Tryd.func43 rfl (by kernel_rfl) (by rw [Tryd.ntmps43]; exact Nat.le_add_left 3 _) ?_; rw [Tryd.ntmps43]
  refine qm ?_
  refine hk_region fun K hK => runs_eval tab_ok ?_
  simp only [ev0, evA, evB, evP, fl, gp, tab, simprocAttr, reduceCtorEq, reduceIte]
  refine fin_run trivial (hK _ ?_) <;> clear hK <;> clear K
  refine qa (qm ?_)
  refine hk_draw mixed (by kernel_rfl) fun K hK => runs_eval tab_ok ?_
  simp only [ev0, evA, evB, evP, fl, gp, tab, simprocAttr, reduceCtorEq, reduceIte]
  refine fin_stop trivial (runs_call (o_c h ha) rfl rfl rfl (by simp only [dstOk, Nat.reduceLT]) (by repeat (first | exact trivial | constructor)) (runs_eval tab_ok ?_))
  simp only [ev0, evA, evB, evP, fl, gp, tab, simprocAttr, reduceCtorEq, reduceIte]
  refine fin_run ?_ (hK _ ?_) <;> clear hK <;> clear K
  · (first | exact trivial | omega | (simp only [In64] at *; omega) | (simp [In64] at *; omega) | (simp_all; done) | skip)
  refine qa (qk ?_)
  simp only [Tryd.results43, enA, ev0, evA, evB, evP, fl, gp, tab, simprocAttr, reduceCtorEq, reduceIte]
  all_goals (unfold orp; rw [Bool.eq_iff_iff, decide_eq_true_eq, decide_eq_true_eq]; omega)
theorem cauchy2_c (h : GT n m n e) : FnC Tryd.prog 42 [.ptr [.int .i64 n, .list (il m)], .ptr [.int .i64 P]] (.list (il (thl n (orp n (op m n) e P)))) := by
  have hb := h.2.1.big
  refine fnc_of tab_ok Tryd.func42 rfl (by kernel_rfl) (by rw [Tryd.ntmps42]; exact Nat.le_add_left 2 _) ?_; rw [Tryd.ntmps42]
  refine qm ?_
  refine hk_region fun K hK => runs_eval tab_ok ?_
  simp only [ev0, evA, evB, evP, fl, gp, tab, simprocAttr, reduceCtorEq, reduceIte]
  refine fin_run trivial (hK _ ?_) <;> clear hK <;> clear K
  refine qa (qm ?_)
  refine hk_region fun K hK => runs_eval tab_ok ?_
  simp only [ev0, evA, evB, evP, fl, gp, tab, simprocAttr, reduceCtorEq, reduceIte]
  refine fin_stop trivial (runs_call (those_c n m _ _ (orp n (op m n) e P) (by omega) (fun a ha => cauchy1_c h ha)) rfl rfl rfl (by simp only [dstOk, Nat.reduceLT]) (by repeat (first | exact trivial | constructor)) (runs_eval tab_ok ?_))
  simp only [ev0, evA, evB, evP, fl, gp, tab, simprocAttr, reduceCtorEq, reduceIte]
  refine fin_run ?_ (hK _ ?_) <;> clear hK <;> clear K
  · (first | exact trivial | omega | (simp only [In64] at *; omega) | (simp [In64] at *; omega) | (simp_all; done) | skip)
  refine qa (qk ?_)
  simp only [Tryd.results42, enA, ev0, evA, evB, evP, fl, gp, tab, simprocAttr, reduceCtorEq, reduceIte]
  all_goals ((first | exact rfl | exact ⟨rfl, rfl⟩ | exact ⟨rfl, rfl, rfl⟩ | exact ⟨trivial, rfl⟩ | exact ⟨Nat.le_refl _, rfl⟩ | trivial | (simp; done)))
theorem sylowCauchy_no (N : Int) (m : List Int) (p : Int) (hm : m.length ≤ 17592186043904) (hf : ¬ (syf N m p).1 = 0) : FnC Tryd.prog 7 [gp N m, .int .i64 p] (.bool true) := by
  refine fnc_of tab_ok Tryd.func7 rfl (by kernel_rfl) (by rw [Tryd.ntmps7]; exact Nat.le_add_left 2 _) ?_; rw [Tryd.ntmps7]
  refine qm ?_
  refine hk_region fun K hK => runs_eval tab_ok ?_
  simp only [ev0, evA, evB, evP, fl, gp, tab, simprocAttr, reduceCtorEq, reduceIte]
  refine fin_run ?_ (hK _ ?_) <;> clear hK <;> clear K
  · (first | exact trivial | omega | (simp only [In64] at *; omega) | (simp [In64] at *; omega) | (simp_all; done) | skip)
  refine qa (qm ?_)
  refine hk_draw2 mixed fun K hK => runs2_eval tab_ok ?_
  simp only [evD, ev0, evA, evB, evP, fl, gp, tab, simprocAttr, reduceCtorEq, reduceIte]
  refine fin2_stop trivial (runs2_call (ownGroup_c N m hm) rfl rfl rfl rfl (by simp only [dstOk, Nat.reduceLT]) (by repeat (first | exact trivial | constructor)) (runs2_eval tab_ok ?_))
  simp only [evD, ev0, evA, evB, evP, fl, gp, tab, simprocAttr, reduceCtorEq, reduceIte]
  refine fin2_stop trivial (runs2_call (cauchy_no N m p (by omega) hf) rfl rfl rfl rfl (by simp only [dstOk, Nat.reduceLT]) (by repeat (first | exact trivial | constructor)) (runs2_eval tab_ok ?_))
  simp only [evD, ev0, evA, evB, evP, fl, gp, tab, simprocAttr, reduceCtorEq, reduceIte]
  refine fin2_run ?_ (hK _ _ (by first | kernel_rfl | rfl) ?_) <;> clear hK <;> clear K
  · (first | exact trivial | omega | (simp only [In64] at *; omega) | (simp [In64] at *; omega) | (simp_all; done) | skip)
  refine qa (qm ?_)
  refine hk_region fun K hK => runs_eval tab_ok ?_
  simp only [ev0, evA, evB, evP, fl, gp, tab, simprocAttr, reduceCtorEq, reduceIte]
  refine fin_stop trivial (runs_call (primeFault_c N m p (by omega)) rfl rfl rfl (by simp only [dstOk, Nat.reduceLT]) (by repeat (first | exact trivial | constructor)) (runs_eval tab_ok ?_))
  simp only [ev0, evA, evB, evP, fl, gp, tab, simprocAttr, reduceCtorEq, reduceIte]
  refine fin_run ?_ (hK _ ?_) <;> clear hK <;> clear K
  · (first | exact trivial | omega | (simp only [In64] at *; omega) | (simp [In64] at *; omega) | (simp_all; done) | skip)
  refine qa (qm (qm ?_))
  refine hk_freeze 0 rfl rfl ?_
  refine hk_freeze 1 rfl rfl ?_
  simp only [hset]
  refine hk_region fun K hK => runs_eval tab_ok ?_
  simp only [ev0, evA, evB, evP, fl, gp, tab, simprocAttr, reduceCtorEq, reduceIte]
  refine fin_stop trivial (runs_call (begun_y) rfl rfl rfl (by simp only [dstOk, Nat.reduceLT]) (by repeat (first | exact trivial | constructor)) (runs_eval tab_ok ?_))
  simp only [ev0, evA, evB, evP, fl, gp, tab, simprocAttr, reduceCtorEq, reduceIte]
  refine fin_stop trivial (runs_call (listAs_c [] (syf N m p) _ _ (by simp) (fun _ => rfl) (fun hh => absurd hh hf)) rfl rfl rfl (by simp only [dstOk, Nat.reduceLT]) (by repeat (first | exact trivial | constructor)) (runs_eval tab_ok ?_))
  simp only [ev0, evA, evB, evP, fl, gp, tab, simprocAttr, reduceCtorEq, reduceIte]
  refine fin_run ?_ (hK _ ?_) <;> clear hK <;> clear K
  · (first | exact trivial | omega | (simp only [In64] at *; omega) | (simp [In64] at *; omega) | (simp_all; done) | skip)
  refine qa ?_
  refine hk_cond rfl (fun hC1 => ?_) (fun hC1 => ?_)
  · cases hC1
  · (try simp only [nhs] at hC1)
    refine qh (qa (qm ?_))
    refine hk_region fun K hK => runs_eval tab_ok ?_
    simp only [ev0, evA, evB, evP, fl, gp, tab, simprocAttr, reduceCtorEq, reduceIte, decide_eq_false hf]
    refine fin_run ?_ (hK _ ?_) <;> clear hK <;> clear K
    · (first | exact trivial | omega | (simp only [In64] at *; omega) | (simp [In64] at *; omega) | (simp_all; done) | skip)
    refine qa (qk ?_)
    simp only [Tryd.results7, enA, ev0, evA, evB, evP, fl, gp, tab, simprocAttr, reduceCtorEq, reduceIte]
    all_goals (trace_state)
theorem sylowCauchy_ok (h : GT n m n e) (hP : isPr P) : FnC Tryd.prog 7 [gp n m, .int .i64 P] (.bool true) := by
  have G := h.2.2
  have hb := h.2.1.big
  have hml := h.2.1.len
  have hsq := sq_le hb
  have hl := thl_le n (orp n (op m n) e P)
  have hP2 := hP.1
  have hlm : (thl n (orp n (op m n) e P)).length = (mem n fun a => decide (ord n (op m n) e a = P)).length := thl_len _ _
  refine fnc_of tab_ok Tryd.func7 rfl (by kernel_rfl) (by rw [Tryd.ntmps7]; exact Nat.le_add_left 2 _) ?_; rw [Tryd.ntmps7]
  refine qm ?_
  refine hk_region fun K hK => runs_eval tab_ok ?_
  simp only [ev0, evA, evB, evP, fl, gp, tab, simprocAttr, reduceCtorEq, reduceIte]
  refine fin_run ?_ (hK _ ?_) <;> clear hK <;> clear K
  · (first | exact trivial | omega | (simp only [In64] at *; omega) | (simp [In64] at *; omega) | (simp_all; done) | skip)
  refine qa (qm ?_)
  refine hk_draw2 mixed fun K hK => runs2_eval tab_ok ?_
  simp only [evD, ev0, evA, evB, evP, fl, gp, tab, simprocAttr, reduceCtorEq, reduceIte]
  refine fin2_stop trivial (runs2_call (ownGroup_c n m (by omega)) rfl rfl rfl rfl (by simp only [dstOk, Nat.reduceLT]) (by repeat (first | exact trivial | constructor)) (runs2_eval tab_ok ?_))
  simp only [evD, ev0, evA, evB, evP, fl, gp, tab, simprocAttr, reduceCtorEq, reduceIte]
  refine fin2_stop trivial (runs2_call (cauchy_ok h hP) rfl rfl rfl rfl (by simp only [dstOk, Nat.reduceLT]) (by repeat (first | exact trivial | constructor)) (runs2_eval tab_ok ?_))
  simp only [evD, ev0, evA, evB, evP, fl, gp, tab, simprocAttr, reduceCtorEq, reduceIte]
  refine fin2_run ?_ (hK _ _ (by first | kernel_rfl | rfl) ?_) <;> clear hK <;> clear K
  · (first | exact trivial | omega | (simp only [In64] at *; omega) | (simp [In64] at *; omega) | (simp_all; done) | skip)
  refine qa (qm ?_)
  refine hk_region fun K hK => runs_eval tab_ok ?_
  simp only [ev0, evA, evB, evP, fl, gp, tab, simprocAttr, reduceCtorEq, reduceIte]
  refine fin_stop trivial (runs_call (primeFault_c n m P (by omega)) rfl rfl rfl (by simp only [dstOk, Nat.reduceLT]) (by repeat (first | exact trivial | constructor)) (runs_eval tab_ok ?_))
  simp only [ev0, evA, evB, evP, fl, gp, tab, simprocAttr, reduceCtorEq, reduceIte, syf_of h hP]
  refine fin_run ?_ (hK _ ?_) <;> clear hK <;> clear K
  · (first | exact trivial | omega | (simp only [In64] at *; omega) | (simp [In64] at *; omega) | (simp_all; done) | skip)
  refine qa (qm (qm ?_))
  refine hk_freeze 0 rfl rfl ?_
  refine hk_freeze 1 rfl rfl ?_
  simp only [hset]
  refine hk_region fun K hK => runs_eval tab_ok ?_
  simp only [ev0, evA, evB, evP, fl, gp, tab, simprocAttr, reduceCtorEq, reduceIte]
  refine fin_stop trivial (runs_call (begun_y) rfl rfl rfl (by simp only [dstOk, Nat.reduceLT]) (by repeat (first | exact trivial | constructor)) (runs_eval tab_ok ?_))
  simp only [ev0, evA, evB, evP, fl, gp, tab, simprocAttr, reduceCtorEq, reduceIte]
  refine fin_stop trivial (runs_call (listAs_c (thl n (orp n (op m n) e P)) (0, 0) _ _ (by omega) (fun hh => absurd rfl hh) (fun _ => cauchy2_c h)) rfl rfl rfl (by simp only [dstOk, Nat.reduceLT]) (by repeat (first | exact trivial | constructor)) (runs_eval tab_ok ?_))
  simp only [ev0, evA, evB, evP, fl, gp, tab, simprocAttr, reduceCtorEq, reduceIte]
  refine fin_run ?_ (hK _ ?_) <;> clear hK <;> clear K
  · (first | exact trivial | omega | (simp only [In64] at *; omega) | (simp [In64] at *; omega) | (simp_all; done) | skip)
  refine qa ?_
  refine hk_cond rfl (fun hC1 => ?_) (fun hC1 => ?_)
  · cases hC1
  · (try simp only [nhs] at hC1)
    refine qh (qa (qm ?_))
    by_cases hd : n % P = 0
    · have h1 : ((n % P : Nat) : Int) = 0 := by omega
      have h2 : ((thl n (orp n (op m n) e P)).length + 1) % P = 0 := by
        rw [hlm]; exact Nat.mod_eq_zero_of_dvd (G.cauchy hP (Nat.dvd_of_mod_eq_zero hd))
      have h3 : Int.tmod (((thl n (orp n (op m n) e P)).length : Int) + 1) (P : Int) = 0 := by
        rw [show ((thl n (orp n (op m n) e P)).length : Int) + 1 = (((thl n (orp n (op m n) e P)).length + 1 : Nat) : Int) by omega, tm_nat, h2]; rfl
      refine hk_region fun K hK => runs_eval tab_ok ?_
      simp only [ev0, evA, evB, evP, fl, gp, tab, simprocAttr, reduceCtorEq, reduceIte, tm_nat, h1, h3, il_length]
      refine fin_run ?_ (hK _ ?_) <;> clear hK <;> clear K
      · (first | exact trivial | omega | (simp only [In64] at *; omega) | (simp [In64] at *; omega) | (simp_all; done) | skip)
      refine qa (qk ?_)
      simp only [Tryd.results7, enA, ev0, evA, evB, evP, fl, gp, tab, simprocAttr, reduceCtorEq, reduceIte]
      all_goals (trace_state)
    · have h1 : ¬ ((n % P : Nat) : Int) = 0 := by omega
      have h2 : (thl n (orp n (op m n) e P)).length = 0 := by
        rw [hlm]
        refine Nat.eq_zero_of_not_pos fun hh => ?_
        obtain ⟨a, ha⟩ := List.exists_mem_of_length_pos hh
        obtain ⟨a1, a2⟩ := mem_mem.1 ha
        rw [decide_eq_true_eq] at a2
        exact hd (Nat.mod_eq_zero_of_dvd (a2 ▸ G.ord_dvd a1))
      refine hk_region fun K hK => runs_eval tab_ok ?_
      simp only [ev0, evA, evB, evP, fl, gp, tab, simprocAttr, reduceCtorEq, reduceIte, tm_nat, decide_eq_true h1, decide_eq_false h1, il_length, h2]
      refine fin_run ?_ (hK _ ?_) <;> clear hK <;> clear K
      · (first | exact trivial | omega | (simp only [In64] at *; omega) | (simp [In64] at *; omega) | (simp_all; done) | skip)
      refine qa (qk ?_)
      simp only [Tryd.results7, enA, ev0, evA, evB, evP, fl, gp, tab, simprocAttr, reduceCtorEq, reduceIte]
      all_goals (trace_state)
theorem sylowCauchy_c (N : Int) (m : List Int) (p : Int) (hm : m.length ≤ 17592186043904) : FnC Tryd.prog 7 [gp N m, .int .i64 p] (.bool true) := by
  by_cases hf : (syf N m p).1 = 0
  · obtain ⟨n, e, P, h, hP, rfl⟩ := syf_ok hf
    have := h.1; subst this
    exact sylowCauchy_ok h hP
  · exact sylowCauchy_no N m p hm hf
end
end Go.Proofs.YtjikchbmkodgfaaDoor

/-
  What the listed package-level variable gives a walk: a table of numbers. Conditions: none; written by a program of this repo.
-/
set_option linter.all false
namespace Go.Proofs.YtjikchbmkodgfaaDoor
open Go.Pv Go.ChangeShapes Go.WideShapes Go.ChangeAt Go.WideElems Go.RowKit

theorem own : ownKnob Tryd.prog.godebug = none := by kernel_rfl
theorem laidOut : laidOutB Tryd.prog = true := by kernel_rfl
theorem gG : Tryd.prog.globalNamed "math/bits.deBruijn64tab" = some 0 := by kernel_rfl
theorem tG : (Tryd.prog.globals[0]?).map (·.type) = some 105 := by kernel_rfl
theorem cG : Tryd.prog.cellsOf 5 = 1 := by kernel_rfl
theorem cT : Tryd.prog.cellsOf 105 = 64 := by kernel_rfl

/-- The door's own heap meets the condition. -/
theorem door_met (os : Os) (args : Array Value) : laidMetH Tryd.prog [("math/bits.deBruijn64tab", Rows.laid_math_bits_deBruijn64tab)] ((World.doorLaid Tryd.prog 4000 os).forCall (fun _ _ => 0) ⟨#[], args, []⟩).memory :=
  laidMetH_of_parts3 (fuel := 8) (laidMet_of_run' 8 (by kernel_rfl) (by kernel_rfl)) (by kernel_rfl) (by kernel_rfl)

def convD : DataW Unit → PV
  | .lit (.int k n) => .int k n
  | _ => .nil
def datum : List (DataW Unit) → List PV := List.map convD
theorem glob_datum : (match (Rows.laid_math_bits_deBruijn64tab : DataW Unit) with | .agg l => datum l | _ => []) = glob0 := rfl

theorem laid_ok {W : World} (h : laidMetH Tryd.prog [("math/bits.deBruijn64tab", Rows.laid_math_bits_deBruijn64tab)] W) : LaidW (fun b => b < W.heap.size) W := by
  refine ⟨fun b h => h, fun g l hg => ?_⟩
  have hg2 : g = 0 ∧ l = glob0 := by
    unfold gv at hg
    by_cases e : g = 0
    · subst e; exact ⟨rfl, (Option.some.inj hg).symm⟩
    · have : (g == 0) = false := by simpa using e
      rw [this] at hg; simp at hg
  obtain ⟨rfl, rfl⟩ := hg2
  rw [MakeChecks.laidMetH_plain _ _ _ (by kernel_rfl)] at h
  obtain ⟨ps, ⟨g0, t0, cs0, f0, p0, q0, hg0, ht0, hv0, hd0, _, _⟩, _, _⟩ := h
  obtain rfl := Option.some.inj (gG.symm.trans hg0)
  obtain rfl := Option.some.inj (tG.symm.trans ht0)
  obtain ⟨xs, m1, rfl, hx1, hlen, hn3, hel⟩ := DataW.trod_array Tryd.underlying105 hd0
  have hd1 : Rows.laid_math_bits_deBruijn64tab = DataW.agg (xs.map (·.1)) := congrArg Prod.fst hx1
  have hgl : glob0 = datum (xs.map (·.1)) := by
    rw [← glob_datum, hd1]
  have key : ∀ c (h : c < glob0.length), W.cell? ⟨0, 0 + c, none⟩ = some ((cs0[c]?).getD undef) ∧ Reads (fun b => b < W.heap.size) W glob0[c] ((cs0[c]?).getD undef) := by
    intro c hc
    have hc2 : c < 64 := Nat.lt_of_lt_of_le hc (by decide)
    have hcx : c < xs.length := by omega
    have h1 := hel c hc2
    rw [List.getElem?_eq_getElem hcx] at h1
    obtain ⟨k, e1, e2, _⟩ := DataW.trod_int Tryd.underlying5 h1
    rw [cG] at e1
    have e3 : cs0.toList[c]? = some (.int .u8 k) := by
      have := congrArg (fun l => l[0]?) e1
      simpa [List.getElem?_take, List.getElem?_drop] using this
    have e4 : cs0[c]? = some (.int .u8 k) := by simpa using e3
    have e5 : glob0[c] = .int .u8 k := by
      have : glob0[c]? = (datum (xs.map (·.1)))[c]? := by rw [hgl]
      rw [List.getElem?_eq_getElem hc] at this
      simp only [datum, List.getElem?_map, List.getElem?_eq_getElem hcx, Option.map_some, Option.some.injEq] at this
      exact this.trans (by rw [e2]; rfl)
    refine ⟨?_, ?_⟩
    · rw [e4, Nat.zero_add, World.var?_cell gG hv0 c, e4]; rfl
    · rw [e4]
      exact e5 ▸ (Reads.int .u8 k)
  refine .ptr _ _ _ (fun c => (cs0[c]?).getD undef) ?_ (fun c hc => (key c hc).1) fun c hc => (key c hc).2
  have := (key 0 (by decide)).1
  unfold World.cell? at this
  rcases Nat.lt_or_ge 0 W.heap.size with h | h
  · exact h
  · exfalso
    rw [Array.getElem?_eq_none h] at this
    simp at this
end Go.Proofs.YtjikchbmkodgfaaDoor
