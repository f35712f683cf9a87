/-
  Texts of this proof, one behind the other: what each says stands at its head. Conditions: none.
-/
import Derived.Test.YtjbfkdaodfdpcaaDoorB3
import Derived.Test.YtjbfkdaodfdpcaaDoorB5
import Derived.Shelf.SlSortCmp.Whole1
import Derived.Shelf.Sort.Plain
import Derived.Shelf.Slices.In.SortNone
import Derived.Test.YtjbfkdaodfdpcaaDoorProg
import Derived.Shelf.Lays
import Derived.Test.YtjbfkdaodfdpcaaDoorB4
import Derived.Test.YtjbfkdaodfdpcaaDoorRows
import Derived.ProofKit
import Derived.LaidMore
import Derived.OpenShut
import Derived.Stop.Joined

/-
  Calls that write what is the caller's own: contracts over blocks. Conditions: none; a library text.
-/
set_option linter.all false
namespace Go.Pv
open Go.RowKit

def ancs : Nat → Nat → Heap
  | _, 0 => []
  | k, n + 1 => .anc k k :: ancs (k + 1) n

theorem ancs_get : ∀ (n k j : Nat) (b : Blk), (ancs k n)[j]? = some b → j < n ∧ b = .anc (k + j) (k + j)
  | 0, k, j, b, h => by simp [ancs] at h
  | n + 1, k, 0, b, h => by simp [ancs] at h; exact ⟨by omega, h.symm⟩
  | n + 1, k, j + 1, b, h => by
    have := ancs_get n (k + 1) j b (by simpa [ancs] using h)
    refine ⟨by omega, ?_⟩
    rw [this.2, show k + 1 + j = k + (j + 1) by omega]

theorem ancs_at : ∀ (n k j : Nat), j < n → (ancs k n)[j]? = some (.anc (k + j) (k + j))
  | n + 1, k, 0, _ => rfl
  | n + 1, k, j + 1, h => by
    rw [show ancs k (n + 1) = .anc k k :: ancs (k + 1) n from rfl, List.getElem?_cons_succ, ancs_at n (k + 1) j (by omega), show k + 1 + j = k + (j + 1) by omega]

def entA : Nat → List AV → List (Nat × AV)
  | _, [] => []
  | k, a :: r => (k, a) :: entA (k + 1) r

theorem entA_lk : ∀ (l : List AV) (k t : Nat), lk (entA k l) t = if k ≤ t then l.getD (t - k) .dead else .dead
  | [], k, t => by simp [entA, lk]
  | a :: r, k, t => by
    simp only [entA, lk]
    by_cases h : k = t
    · subst h; simp
    · rw [show (k == t) = false by simpa using h]
      simp only [cond_false]
      rw [entA_lk r (k + 1) t]
      by_cases hk : k ≤ t
      · rw [if_pos (by omega), if_pos hk, show t - k = (t - (k + 1)) + 1 by omega]; rfl
      · rw [if_neg (by omega), if_neg hk]

theorem app_get {H X : Heap} {k : Nat} {b : Blk} (h : (H ++ X)[k]? = some b) : (k < H.length ∧ H[k]? = some b) ∨ X[k - H.length]? = some b := by
  by_cases hk : k < H.length
  · exact .inl ⟨hk, by rwa [List.getElem?_append_left hk] at h⟩
  · exact .inr (by rwa [List.getElem?_append_right (by omega)] at h)

section
variable {P : Program} {T : TypeId → Option TI} {C : Ctx} {m : Map} {s : St} {tmps : Array Value} {w : World}

theorem Rel.addAnc (R : Rel C m s tmps w) {n : Nat} (hn : n ≤ s.H.length) (ha : ∀ i, i < n → m i = C.anc i) : Rel C m { s with H := s.H ++ ancs 0 n } tmps w := by
  have gen : ∀ (k : Nat) (b : Blk), (∀ i j, b ≠ .anc i j) → (s.H ++ ancs 0 n)[k]? = some b → k < s.H.length ∧ s.H[k]? = some b := by
    intro k b hb h
    rcases app_get h with h | h
    · exact h
    · exact absurd (ancs_get _ _ _ _ h).2 (hb _ _)
  have own : ∀ (k : Nat) (c : List AV), (s.H ++ ancs 0 n)[k]? = some (.own c) → k < s.H.length ∧ s.H[k]? = some (.own c) := fun k c h => gen k _ (fun _ _ h => by cases h) h
  have mps : ∀ (k : Nat) (kk : IntKind) (d : Int → Bool) (v : Int → PV), (s.H ++ ancs 0 n)[k]? = some (Blk.mp kk d v) → k < s.H.length ∧ s.H[k]? = some (Blk.mp kk d v) := fun k _ _ _ h => gen k _ (fun _ _ h => by cases h) h
  have ho : ∀ b, OK C m s.H w b → OK C m (s.H ++ ancs 0 n) w b := fun b h => ⟨h.1, h.2.1, fun k c l hk hl => h.2.2 k c l (own k c hk).2 hl⟩
  have hlen : s.H.length ≤ (s.H ++ ancs 0 n).length := by simp
  have rd : ∀ p v, Reads (OK C m s.H w) w p v → Reads (OK C m (s.H ++ ancs 0 n) w) w p v := fun p v h => h.mono ho
  refine ⟨R.laid.ext rd, R.below, R.base, R.size, fun k k' c c' l l' h1 h2 => R.inj k k' c c' l l' (own k c h1).2 (own k' c' h2).2, fun k c h => (R.blk k c (own k c h).2).ext rd hlen (fun _ _ => rfl) rfl fun _ _ => rfl,
    fun k c h => (R.fro k c (gen k _ (fun _ _ h => by cases h) h).2).ext ho (fun _ _ => rfl) rfl, fun t => (R.slot t).ext rd hlen fun _ _ => rfl, fun k kk d v h => (R.mp.1 k kk d v (mps k kk d v h).2).ext ho (fun _ _ => rfl) rfl fun _ _ => rfl,
    fun k k' kk d v kk' d' v' l l' h1 h2 => R.mp.2.1 k k' kk d v kk' d' v' l l' (mps _ _ _ _ h1).2 (mps _ _ _ _ h2).2, fun k i j h => ?_⟩
  rcases app_get h with h | h
  · obtain ⟨a1, a2⟩ := R.mp.2.2 k i j h.2
    exact ⟨by simp; omega, a2⟩
  · obtain ⟨a1, a2⟩ := ancs_get _ _ _ _ h
    cases a2
    refine ⟨by simp; omega, ?_⟩
    rw [ha _ (by omega)]

/-! ### The contract -/

/-- A CONTRACT OVER BLOCKS: called with values that are so over such blocks of the caller's own, the function returns so, over those blocks as they are then, and new ones. -/
def FnM (P : Program) (f : FuncId) (args : List AV) (H0 : Heap) (r : AV) (H1 : Heap) : Prop :=
  Fun P f ∧ ∀ (C : Ctx) (m : Map) (w : World) (vals : Array Value), Rel C m ⟨args.length, entA 0 args, H0 ++ ancs 0 H0.length⟩ vals w →
    Calls P f vals w fun e w' => ∃ v m', e = .returned v ∧ Rel C m' ⟨1, [(0, r)], H1 ++ ancs 0 H0.length⟩ #[v] w'

/-! ### Who calls it -/

theorem AVal.sig {rd rd' : PV → Value → Prop} {m m2 : Map} {H H2 : Heap} {σ : List Nat} (h1 : ∀ p v, rd p v → rd' p v) (hs : ∀ k, k < σ.length → σ.getD k 0 < H2.length ∧ m2 (σ.getD k 0) = m k) {x : AV} {v : Value} (h : AVal rd m H x v)
    (hx : scA σ.length x = true) : AVal rd' m2 H2 (Go.Pv.ren σ x) v := by
  have one : ∀ {x : AV} {v : Value}, AVal rd m H x v → sc1 σ.length x = true → AVal rd' m2 H2 (ren1 σ x) v := by
    intro x v h hsc
    cases h with
    | dead v => exact .dead v
    | p pv v h => exact .p pv v (h1 _ _ h)
    | sl k lo len v hk h =>
      obtain ⟨g1, g2⟩ := hs k (by simpa [sc1] using hsc)
      refine .sl _ lo len v g1 ?_
      unfold SlOk at *
      rw [g2]; exact h
    | ptr k i v hk h =>
      obtain ⟨g1, g2⟩ := hs k (by simpa [sc1] using hsc)
      refine .ptr _ i v g1 ?_
      unfold PtrOk at *
      rw [g2]; exact h
    | agg l vs hl hr => simp [sc1] at hsc
    | tup l vs hl hr => simp [sc1] at hsc
    | cl f l vs hl hr => simp [sc1] at hsc
    | itv r => exact .itv r
    | mptr k v hk h =>
      obtain ⟨g1, g2⟩ := hs k (by simpa [sc1] using hsc)
      refine .mptr _ v g1 ?_
      unfold MptrOk at *
      rw [g2]; exact h
  cases x with
  | agg l =>
    cases h with
    | agg _ vs hl hr =>
      refine .agg _ vs (by simpa using hl) fun c hc => ?_
      rw [List.length_map] at hc
      rw [List.getElem_map]
      exact one (hr c hc) ((List.all_eq_true.1 hx) _ (List.getElem_mem hc))
  | tup l =>
    cases h with
    | tup _ vs hl hr =>
      refine .tup _ vs (by simpa using hl) fun c hc => ?_
      rw [List.length_map] at hc
      rw [List.getElem_map]
      exact one (hr c hc) ((List.all_eq_true.1 hx) _ (List.getElem_mem hc))
  | cl f l =>
    cases h with
    | cl _ _ vs hl hr =>
      refine .cl _ _ vs (by simpa using hl) fun c hc => ?_
      rw [List.length_map] at hc
      rw [List.getElem_map]
      exact one (hr c hc) ((List.all_eq_true.1 hx) _ (List.getElem_mem hc))
  | dead => exact one h hx
  | p pv => exact one h hx
  | sl k lo len => exact one h hx
  | ptr k i => exact one h hx
  | mptr k => exact one h hx
  | itv r => exact one h hx

/-- Blocks put back: those that were lent, in their places; new ones behind. -/
def putM : Heap → List Nat → Heap → Heap
  | H, [], bs => H ++ bs
  | H, _ :: _, [] => H
  | H, k :: ks, b :: bs => putM (hset H k b) ks bs

theorem putM_get : ∀ (ks : List Nat) (bs H : Heap) (k : Nat) (b : Blk), (∀ k ∈ ks, k < H.length) → ks.length ≤ bs.length → (putM H ks bs)[k]? = some b →
    (∃ j : Nat, bs[j]? = some b ∧ (ks ++ List.range' H.length (bs.length - ks.length))[j]? = some k) ∨ (k < H.length ∧ k ∉ ks ∧ H[k]? = some b)
  | [], bs, H, k, b, _, _, h => by
    simp only [putM] at h
    by_cases hk : k < H.length
    · exact .inr ⟨hk, by simp, by rwa [List.getElem?_append_left hk] at h⟩
    · rw [List.getElem?_append_right (by omega)] at h
      · refine .inl ⟨k - H.length, h, ?_⟩
        have := (List.getElem?_eq_some_iff.1 h).1
        simp only [List.nil_append, List.length_nil, Nat.sub_zero]
        rw [List.getElem?_range' this]
        simp; omega
  | k0 :: ks, [], H, k, b, _, hl, _ => by simp at hl
  | k0 :: ks, b0 :: bs, H, k, b, hk, hl, h => by
    simp only [putM] at h
    have h0 := hk k0 (by simp)
    rcases putM_get ks bs (hset H k0 b0) k b (fun k hk' => by rw [hset_length]; exact hk k (by simp [hk'])) (by simpa using hl) h with ⟨j, h1, h2⟩ | ⟨h1, h2, h3⟩
    · rw [hset_length] at h2
      exact .inl ⟨j + 1, by simpa using h1, by simpa using h2⟩
    · rw [hset_get] at h3
      rw [hset_length] at h1
      by_cases e : k = k0
      · subst e
        rw [if_pos ⟨rfl, h0⟩] at h3
        exact .inl ⟨0, by simpa using h3, by simp⟩
      · rw [if_neg (by simp [e])] at h3
        exact .inr ⟨h1, by simp [e, h2], h3⟩

theorem putM_length : ∀ (ks : List Nat) (bs H : Heap), ks.length ≤ bs.length → (putM H ks bs).length = H.length + (bs.length - ks.length)
  | [], bs, H, _ => by simp [putM]
  | k0 :: ks, [], H, hl => by simp at hl
  | k0 :: ks, b0 :: bs, H, hl => by
    simp only [putM]
    rw [putM_length ks bs _ (by simpa using hl), hset_length]; simp

/-- Maps stay maps. -/
def mpKeep : Heap → Heap → Bool
  | .mp _ _ _ :: r, .mp _ _ _ :: t => mpKeep r t
  | .mp _ _ _ :: _, _ => false
  | _ :: r, _ :: t => mpKeep r t
  | [], _ => true
  | _ :: _, [] => false

theorem mpKeep_get : ∀ {H0 H1 : Heap}, mpKeep H0 H1 = true → ∀ (j : Nat) (kk : IntKind) (d : Int → Bool) (v : Int → PV), H0[j]? = some (.mp kk d v) → ∃ kk' d' v', H1[j]? = some (.mp kk' d' v')
  | [], _, _, j, _, _, _, h => by simp at h
  | b :: r, [], hm, _, _, _, _, _ => by cases b <;> simp [mpKeep] at hm
  | b :: r, b' :: t, hm, 0, kk, d, v, h => by
    simp at h; subst h
    cases b' <;> simp [mpKeep] at hm
    exact ⟨_, _, _, rfl⟩
  | b :: r, b' :: t, hm, j + 1, kk, d, v, h => by
    have hm2 : mpKeep r t = true := by cases b <;> cases b' <;> simp [mpKeep] at hm <;> exact hm
    simpa using mpKeep_get hm2 j kk d v (by simpa using h)

def scM (av : AV) (H0 H1 : Heap) : Bool :=
  scA H1.length av && H1.all (fun | .own c => c.all (scA H1.length) | .anc _ _ => false | _ => true) && decide (H0.length ≤ H1.length) && mpKeep H0 H1 && H0.all notAnc

/-- The frame of who is called with blocks that are lent. -/
def subC (C : Ctx) (m : Map) (H : Heap) (ks : List Nat) (H0 : Heap) (w : World) : Ctx :=
  ⟨fun b => OK C m H w b, fun b => w.heap.size ≤ b ∨ ∃ (j : Nat) (b0 : Blk) (l : Loc), H0[j]? = some b0 ∧ b0.wr = true ∧ mren m ks j = some l ∧ l.g = b, w, mren m ks⟩

theorem Rel.wrLt (R : Rel C m s tmps w) {k : Nat} {b : Blk} (hb : s.H[k]? = some b) (hw : b.wr = true) {l : Loc} (hl : m k = some l) : C.B l.g ∧ l.g < w.heap.size := by
  cases b with
  | own c =>
    rcases R.blk k c hb with ⟨_, hn⟩ | ⟨l', cur, e, a1, a2, a3, _⟩
    · rw [hl] at hn; cases hn
    · rw [hl] at a1; cases a1
      exact ⟨a2, (Array.getElem?_eq_some_iff.1 a3).1⟩
  | mp kk d v =>
    obtain ⟨l', ar, clk, vs, a1, a2, a3, _⟩ := R.mp.1 k kk d v hb
    rw [hl] at a1; cases a1
    exact ⟨a2, (Array.getElem?_eq_some_iff.1 a3).1⟩
  | _ => cases hw

theorem Rel.inj2 (R : Rel C m s tmps w) {k k' : Nat} {b b' : Blk} (hb : s.H[k]? = some b) (hw : b.wr = true) (hb' : s.H[k']? = some b') (hw' : b'.wr = true) {l l' : Loc} (hl : m k = some l) (hl' : m k' = some l') (e : l.g = l'.g) : k = k' := by
  cases b with
  | own c =>
    cases b' with
    | own c' => exact R.inj k k' c c' l l' hb hb' hl hl' e
    | mp kk d v => exact absurd e ((R.mpOK hb' hl').2.2 k c l hb hl)
    | _ => cases hw'
  | mp kk d v =>
    cases b' with
    | own c' => exact absurd e.symm ((R.mpOK hb hl).2.2 k' c' l' hb' hl')
    | mp kk' d' v' => exact R.mp.2.1 _ _ _ _ _ _ _ _ _ _ hb hb' hl hl' e
    | _ => cases hw'
  | _ => cases hw

theorem LeH.wr {π : List Nat} {H H1 : Heap} (h3 : LeH π H π H1) {j : Nat} {b0 : Blk} (h : H1[j]? = some b0) (hw : b0.wr = true) : ∃ k' b, π[j]? = some k' ∧ H[k']? = some b ∧ b.wr = true ∧ ((∃ c, b0 = .own c) → ∃ c, b = .own c) ∧ ((∃ kk d v, b0 = .mp kk d v) → ∃ kk d v, b = .mp kk d v) := by
  obtain ⟨g1, g2⟩ := h3.get
  cases b0 with
  | own c =>
    obtain ⟨k', d, a1, a2, _⟩ := LeH.own g2 j c h
    exact ⟨k', _, a1, a2, rfl, (fun _ => ⟨_, rfl⟩), fun ⟨_, _, _, h⟩ => by cases h⟩
  | mp kk d v =>
    obtain ⟨k', a, b⟩ := g2 j _ h
    exact ⟨k', _, a, hget_some b (by simp), rfl, (fun ⟨_, h⟩ => by cases h), fun _ => ⟨_, _, _, rfl⟩⟩
  | _ => cases hw

theorem Rel.joinM (R : Rel C m s tmps w) {ks : List Nat} {H0 H1 : Heap} {r : AV} {w' : World} {v : Value} {m' : Map} (hle : LeH ks s.H ks H0) (hks : ∀ k ∈ ks, k < s.H.length) (R1 : Rel (subC C m s.H ks H0 w) m' ⟨1, [(0, r)], H1 ++ ancs 0 H0.length⟩ #[v] w') (hsc : scM r H0 H1 = true) :
    ∃ m2, Rel C m2 { s with H := putM s.H ks (H1.map (Blk.ren (ks ++ List.range' s.H.length (H1.length - ks.length)))) } tmps w' ∧
      AVal (Reads (OK C m2 (putM s.H ks (H1.map (Blk.ren (ks ++ List.range' s.H.length (H1.length - ks.length))))) w') w') m2 (putM s.H ks (H1.map (Blk.ren (ks ++ List.range' s.H.length (H1.length - ks.length))))) (Go.Pv.ren (ks ++ List.range' s.H.length (H1.length - ks.length)) r) v := by
  obtain ⟨g1, g2⟩ := hle.get
  unfold scM at hsc
  rw [Bool.and_eq_true, Bool.and_eq_true, Bool.and_eq_true, Bool.and_eq_true, decide_eq_true_eq] at hsc
  obtain ⟨⟨⟨⟨s1, s2⟩, s3⟩, s4⟩, s5⟩ := hsc
  have hn : ks.length ≤ H1.length := by omega
  generalize hσe : ks ++ List.range' s.H.length (H1.length - ks.length) = σ
  have hσlen : σ.length = H1.length := by rw [← hσe]; simp; omega
  generalize hH2 : putM s.H ks (H1.map (Blk.ren σ)) = H2
  have hlen2 : H2.length = s.H.length + (H1.length - ks.length) := by rw [← hH2, putM_length _ _ _ (by simpa using hn)]; simp
  -- where the callee's blocks lie
  have hm1 : ∀ j, j < H0.length → m' j = mren m ks j := fun j hj => by
    have h : (H1 ++ ancs 0 H0.length)[H1.length + j]? = some (.anc j j) := by
      rw [List.getElem?_append_right (by omega), Nat.add_sub_cancel_left, ancs_at _ _ _ hj, Nat.zero_add]
    exact (R1.mp.2.2 _ _ _ h).2
  obtain ⟨m2, hm2⟩ : ∃ m2 : Map, m2 = fun k => if k < s.H.length then m k else m' (ks.length + (k - s.H.length)) := ⟨_, rfl⟩
  have hmo : ∀ k, k < s.H.length → m2 k = m k := fun k h => by rw [hm2]; simp [h]
  have hσ : ∀ (j k : Nat), σ[j]? = some k → k < H2.length ∧ m2 k = m' j := by
    intro j k h
    rw [← hσe] at h
    by_cases hj : j < ks.length
    · rw [List.getElem?_append_left hj] at h
      have hk := hks k (List.mem_of_getElem? h)
      refine ⟨by omega, ?_⟩
      rw [hmo k hk, hm1 j (by omega)]
      simp only [mren, h, Option.bind_some]
    · rw [List.getElem?_append_right (by omega)] at h
      have hj2 : j - ks.length < H1.length - ks.length := by
        have := (List.getElem?_eq_some_iff.1 h).1
        simpa using this
      rw [List.getElem?_range' hj2] at h
      simp only [Option.some.injEq, Nat.one_mul] at h
      subst h
      refine ⟨by omega, ?_⟩
      rw [hm2]
      simp only
      rw [if_neg (by omega)]
      congr 1
      omega
  have hσ2 : ∀ k, k < σ.length → σ.getD k 0 < H2.length ∧ m2 (σ.getD k 0) = m' k := fun k hk => by
    have : σ[k]? = some (σ.getD k 0) := by simp [List.getD, List.getElem?_eq_getElem hk]
    exact hσ k _ this
  have hget : ∀ (k : Nat) (b : Blk), H2[k]? = some b → (∃ (j : Nat) (b' : Blk), H1[j]? = some b' ∧ b = b'.ren σ ∧ σ[j]? = some k) ∨ (k < s.H.length ∧ k ∉ ks ∧ s.H[k]? = some b) := by
    intro k b h
    rw [← hH2] at h
    rcases putM_get ks _ s.H k b hks (by simpa using hn) h with ⟨j, h1, h2⟩ | h
    · rw [List.length_map, hσe] at h2
      rw [List.getElem?_map] at h1
      cases e : H1[j]? with
      | none => rw [e] at h1; cases h1
      | some b' => rw [e] at h1; exact .inl ⟨j, b', e, (Option.some.inj h1).symm, h2⟩
    · exact .inr h
  have hHc : ∀ (j : Nat) (b : Blk), H1[j]? = some b → (H1 ++ ancs 0 H0.length)[j]? = some b := fun j b h => by
    rw [List.getElem?_append_left (List.getElem?_eq_some_iff.1 h).1]; exact h
  have hown : ∀ (k : Nat) (c : List AV), H2[k]? = some (.own c) → (∃ (j : Nat) (c' : List AV), H1[j]? = some (.own c') ∧ c = c'.map (Go.Pv.ren σ) ∧ σ[j]? = some k) ∨ (k < s.H.length ∧ k ∉ ks ∧ s.H[k]? = some (.own c)) := by
    intro k c h
    rcases hget k _ h with ⟨j, b', h1, h2, h3⟩ | h
    · cases b' with
      | own c' => simp only [Blk.ren, Blk.own.injEq] at h2; exact .inl ⟨j, c', h1, h2, h3⟩
      | _ => cases h2
    · exact .inr h
  have hmps : ∀ (k : Nat) (kk : IntKind) (d : Int → Bool) (vv : Int → PV), H2[k]? = some (.mp kk d vv) → (∃ j : Nat, H1[j]? = some (.mp kk d vv) ∧ σ[j]? = some k) ∨ (k < s.H.length ∧ k ∉ ks ∧ s.H[k]? = some (.mp kk d vv)) := by
    intro k kk d vv h
    rcases hget k _ h with ⟨j, b', h1, h2, h3⟩ | h
    · cases b' with
      | mp kk' d' v' => simp only [Blk.ren, Blk.mp.injEq] at h2; obtain ⟨rfl, rfl, rfl⟩ := h2; exact .inl ⟨j, h1, h3⟩
      | _ => cases h2
    · exact .inr h
  have hfro : ∀ (k : Nat) (c : List PV), H2[k]? = some (.fro c) → (∃ j : Nat, H1[j]? = some (.fro c) ∧ σ[j]? = some k) ∨ (k < s.H.length ∧ k ∉ ks ∧ s.H[k]? = some (.fro c)) := by
    intro k c h
    rcases hget k _ h with ⟨j, b', h1, h2, h3⟩ | h
    · cases b' with
      | fro c' => simp only [Blk.ren, Blk.fro.injEq] at h2; subst h2; exact .inl ⟨j, h1, h3⟩
      | _ => cases h2
    · exact .inr h
  have lent : ∀ (j : Nat) (b0 : Blk) (l : Loc), H0[j]? = some b0 → b0.wr = true → mren m ks j = some l → ∃ k' b, k' ∈ ks ∧ s.H[k']? = some b ∧ b.wr = true ∧ m k' = some l ∧ ((∃ c, b0 = .own c) → ∃ c, b = .own c) ∧ ((∃ kk d v, b0 = .mp kk d v) → ∃ kk d v, b = .mp kk d v) := by
    intro j b0 l h hw hl
    obtain ⟨k', b, a1, a2, a3, a4, a5⟩ := hle.wr h hw
    simp only [mren, a1, Option.bind_some] at hl
    exact ⟨k', b, List.mem_of_getElem? a1, a2, a3, hl, a4, a5⟩
  have hB1 : ∀ b, (subC C m s.H ks H0 w).B b → C.B b := by
    intro b hb
    rcases hb with hb | ⟨j, b0, l, h1, h2, h3, rfl⟩
    · exact R.base b hb
    · obtain ⟨k', b, _, a2, a3, a4, _⟩ := lent j b0 l h1 h2 h3
      exact (R.wrLt a2 a3 a4).1
  have hBx : ∀ (k : Nat) (b : Blk) (l : Loc), k ∉ ks → s.H[k]? = some b → b.wr = true → m k = some l → ¬ (subC C m s.H ks H0 w).B l.g := by
    intro k b l hk hb hw hl hB
    rcases hB with hB | ⟨j, b0, l0, h1, h2, h3, h4⟩
    · have := (R.wrLt hb hw hl).2
      omega
    · obtain ⟨k', b', a1, a2, a3, a4, _⟩ := lent j b0 l0 h1 h2 h3
      have := R.inj2 hb hw a2 a3 hl a4 h4.symm
      subst this
      exact hk a1
  have hcell : ∀ b o x, OK C m s.H w b → w.cell? ⟨b, o, none⟩ = some x → w'.cell? ⟨b, o, none⟩ = some x := by
    intro b o x hb hc
    by_cases hB : (subC C m s.H ks H0 w).B b
    · exfalso
      rcases hB with hB | ⟨j, b0, l0, h1, h2, h3, h4⟩
      · have := hb.2.1; omega
      · obtain ⟨k', b', a1, a2, a3, a4, _⟩ := lent j b0 l0 h1 h2 h3
        cases b' with
        | own c => exact hb.2.2 k' c l0 a2 a4 h4
        | mp kk d vv =>
          obtain ⟨l', ar, clk, vs, c1, c2, c3, _⟩ := R.mp.1 k' kk d vv a2
          rw [a4] at c1; cases c1
          rw [h4] at c3
          unfold World.cell? at hc
          simp only [c3] at hc
          first | cases hc | simp at hc
        | _ => cases a3
    · rw [World.cell?_of_block (w := w) (R1.below.block b hB)]; exact hc
  have hOK : ∀ b, OK (subC C m s.H ks H0 w) m' (H1 ++ ancs 0 H0.length) w' b → OK C m2 H2 w' b := by
    intro b hb
    refine ⟨?_, hb.2.1, fun k c l h hl => ?_⟩
    · rcases hb.1 with h | h
      · exact h.1
      · exact .inr (hB1 b h)
    · rcases hown k c h with ⟨j, c', h1, _, h3⟩ | ⟨h1, h2, h3⟩
      · rw [(hσ j k h3).2] at hl
        exact hb.2.2 j c' l (hHc _ _ h1) hl
      · rw [hmo k h1] at hl
        rcases hb.1 with h' | h'
        · exact h'.2.2 k c l h3 hl
        · intro e
          exact hBx k _ l h2 h3 rfl hl (by rw [e]; exact h')
  have ho1 : ∀ b, OK C m s.H w b → OK C m2 H2 w' b := by
    intro b hb
    refine ⟨hb.1, Nat.lt_of_lt_of_le hb.2.1 R1.below.size, fun k c l h hl e => ?_⟩
    rcases hown k c h with ⟨j, c', h1, _, h3⟩ | ⟨h1, h2, h3⟩
    · rw [(hσ j k h3).2] at hl
      rcases (R1.wrLt (hHc _ _ h1) rfl hl).1 with hB | ⟨j0, b0, l0, a1, a2, a3, a4⟩
      · have := hb.2.1; omega
      · obtain ⟨k', b', d1, d2, d3, d4, d5, d6⟩ := lent j0 b0 l0 a1 a2 a3
        cases b0 with
        | own c0 =>
          obtain ⟨c1, rfl⟩ := d5 ⟨_, rfl⟩
          exact hb.2.2 k' c1 l0 d2 d4 (by rw [a4, e])
        | mp kk d vv =>
          obtain ⟨kk', d', v', f1⟩ := mpKeep_get s4 j0 kk d vv a1
          have hj0 : j0 < H0.length := (List.getElem?_eq_some_iff.1 a1).1
          have f2 : m' j0 = some l0 := by rw [hm1 j0 hj0]; exact a3
          exact (R1.mpOK (hHc _ _ f1) f2).2.2 j c' l (hHc _ _ h1) hl a4.symm
        | _ => cases a2
    · rw [hmo k h1] at hl
      exact hb.2.2 k c l h3 hl e
  have rd1 : ∀ p x, Reads (OK C m s.H w) w p x → Reads (OK C m2 H2 w') w' p x := fun p x h => h.extc ho1 hcell
  have rd2 : ∀ p x, Reads (OK (subC C m s.H ks H0 w) m' (H1 ++ ancs 0 H0.length) w') w' p x → Reads (OK C m2 H2 w') w' p x := fun p x h => h.mono hOK
  have hlen3 : s.H.length ≤ H2.length := by omega
  have sall : ∀ (j : Nat) (b : Blk), H1[j]? = some b → (match b with | .own c => c.all (scA H1.length) | .anc _ _ => false | _ => true) = true := fun j b h => by
    have := (List.all_eq_true.1 s2) _ (List.mem_of_getElem? h)
    cases b <;> exact this
  refine ⟨m2, ⟨R.laid.ext rd1, R.below.trans ⟨R1.below.os, R1.below.tape, R1.below.output, R1.below.size, fun k hk => R1.below.block k fun h => hk (hB1 k h), R1.below.dr⟩, fun b h => R.base b (Nat.le_trans R1.below.size h), R.size, ?_, ?_, ?_, fun t => ?_, ?_, ?_, ?_⟩, ?_⟩
  · intro k k' c c' l l' h1 h2 h3 h4 h5
    rcases hown k c h1 with ⟨j, d, a1, _, a3⟩ | ⟨a1, a2, a3⟩ <;> rcases hown k' c' h2 with ⟨j', d', b1, _, b3⟩ | ⟨b1, b2, b3⟩
    · rw [(hσ _ _ a3).2] at h3; rw [(hσ _ _ b3).2] at h4
      have := R1.inj j j' d d' l l' (hHc _ _ a1) (hHc _ _ b1) h3 h4 h5
      subst this
      rw [a3] at b3
      exact Option.some.inj b3
    · rw [(hσ _ _ a3).2] at h3; rw [hmo _ b1] at h4
      exact absurd (by rw [← h5]; exact (R1.wrLt (hHc _ _ a1) rfl h3).1) (hBx k' _ l' b2 b3 rfl h4)
    · rw [hmo _ a1] at h3; rw [(hσ _ _ b3).2] at h4
      exact absurd (by rw [h5]; exact (R1.wrLt (hHc _ _ b1) rfl h4).1) (hBx k _ l a2 a3 rfl h3)
    · rw [hmo _ a1] at h3; rw [hmo _ b1] at h4
      exact R.inj k k' c c' l l' a3 b3 h3 h4 h5
  · intro k c h
    rcases hown k c h with ⟨j, c', a1, rfl, a3⟩ | ⟨a1, a2, a3⟩
    · rcases R1.blk j c' (hHc _ _ a1) with ⟨e, hn⟩ | ⟨l, cur, e, b1, b2, b3, b4, b5, b6, b7⟩
      · exact .inl ⟨by rw [e]; rfl, by rw [(hσ _ _ a3).2]; exact hn⟩
      · refine .inr ⟨l, cur, e, by rw [(hσ _ _ a3).2]; exact b1, hB1 _ b2, b3, b4, b5, by simpa using b6, fun i hi => ?_⟩
        rw [List.length_map] at hi
        rw [List.getElem_map]
        have hs : scA σ.length c'[i] = true := by
          rw [hσlen]
          exact (List.all_eq_true.1 (sall j _ a1)) _ (List.getElem_mem hi)
        exact (b7 i hi).sig rd2 hσ2 hs
    · refine (R.blk k c a3).ext rd1 hlen3 hmo (hmo k a1) fun l hl => R1.below.block _ (hBx k _ l a2 a3 rfl hl)
  · intro k c h
    rcases hfro k c h with ⟨j, a1, a3⟩ | ⟨a1, a2, a3⟩
    · rcases R1.fro j c (hHc _ _ a1) with ⟨e1, e2⟩ | ⟨l, vs, e1, e2, e3, e4⟩
      · exact .inl ⟨e1, by rw [(hσ _ _ a3).2]; exact e2⟩
      · exact .inr ⟨l, vs, by rw [(hσ _ _ a3).2]; exact e1, hOK _ e2, e3, fun i hi => ⟨(e4 i hi).1, rd2 _ _ (e4 i hi).2⟩⟩
    · rcases R.fro k c a3 with ⟨e1, e2⟩ | ⟨l, vs, e1, e2, e3, e4⟩
      · exact .inl ⟨e1, by rw [hmo k a1]; exact e2⟩
      · exact .inr ⟨l, vs, by rw [hmo k a1]; exact e1, ho1 _ e2, e3, fun i hi => ⟨hcell _ _ _ e2 (e4 i hi).1, rd1 _ _ (e4 i hi).2⟩⟩
  · exact (R.slot t).ext rd1 hlen3 hmo
  · intro k kk d vv h
    rcases hmps k kk d vv h with ⟨j, a1, a3⟩ | ⟨a1, a2, a3⟩
    · obtain ⟨l, ar, clk, vs, b1, b2, b3, b4, b5, b6, b7⟩ := R1.mp.1 j kk d vv (hHc _ _ a1)
      exact ⟨l, ar, clk, vs, by rw [(hσ _ _ a3).2]; exact b1, hB1 _ b2, b3, b4, b5, b6, fun z hz => rd2 _ _ (b7 z hz)⟩
    · obtain ⟨l, ar, clk, vs, b1, b2, b3, b4, b5, b6, b7⟩ := R.mp.1 k kk d vv a3
      exact ⟨l, ar, clk, vs, by rw [hmo k a1]; exact b1, b2, by rw [R1.below.block _ (hBx k _ l a2 a3 rfl b1)]; exact b3, b4, b5, b6, fun z hz => rd1 _ _ (b7 z hz)⟩
  · intro k k' kk d vv kk' d' v' l l' h1 h2 h3 h4 h5
    rcases hmps k kk d vv h1 with ⟨j, a1, a3⟩ | ⟨a1, a2, a3⟩ <;> rcases hmps k' kk' d' v' h2 with ⟨j', b1, b3⟩ | ⟨b1, b2, b3⟩
    · rw [(hσ _ _ a3).2] at h3; rw [(hσ _ _ b3).2] at h4
      have := R1.mp.2.1 _ _ _ _ _ _ _ _ _ _ (hHc _ _ a1) (hHc _ _ b1) h3 h4 h5
      subst this
      rw [a3] at b3
      exact Option.some.inj b3
    · rw [(hσ _ _ a3).2] at h3; rw [hmo _ b1] at h4
      exact absurd (by rw [← h5]; exact (R1.wrLt (hHc _ _ a1) rfl h3).1) (hBx k' _ l' b2 b3 rfl h4)
    · rw [hmo _ a1] at h3; rw [(hσ _ _ b3).2] at h4
      exact absurd (by rw [h5]; exact (R1.wrLt (hHc _ _ b1) rfl h4).1) (hBx k _ l a2 a3 rfl h3)
    · rw [hmo _ a1] at h3; rw [hmo _ b1] at h4
      exact R.mp.2.1 _ _ _ _ _ _ _ _ _ _ a3 b3 h3 h4 h5
  · intro k i j h
    rcases hget k _ h with ⟨j', b', h1, h2, _⟩ | ⟨a1, a2, a3⟩
    · have := sall j' b' h1
      cases b' with
      | anc _ _ => cases this
      | _ => cases h2
    · obtain ⟨c1, c2⟩ := R.mp.2.2 k i j a3
      exact ⟨by simp only; omega, by rw [hmo j c1]; exact c2⟩
  · have := R1.slot 0
    exact AVal.sig rd2 hσ2 this (by rw [hσlen]; exact s1)

/-! ### The call -/

def argM1 (H : Heap) (ks : List Nat) (x a : AV) : Prop :=
  match a with
  | .p pv => (match peekG H x with | some (p, pv', true) => p ∧ pv' = pv | _ => False)
  | a => x = Go.Pv.ren ks a ∧ scA ks.length a = true

def argsM (H : Heap) (ks : List Nat) : List AV → List AV → Prop
  | x :: xs, a :: avs => argM1 H ks x a ∧ argsM H ks xs avs
  | [], [] => True
  | _, _ => False

theorem argsM_val (R : Rel C m s tmps w) {rd' : PV → Value → Prop} {ks : List Nat} {H0 : Heap} (h1 : ∀ p v, Reads (OK C m s.H w) w p v → rd' p v) (hl : H0.length = ks.length) : ∀ (X avs : List AV) (f : Nat → Value), argsM s.H ks X avs → (∀ i (h : i < X.length), AVal (Reads (OK C m s.H w) w) m s.H X[i] (f i)) →
    avs.length = X.length ∧ ∀ i (h : i < avs.length), AVal rd' (mren m ks) H0 avs[i] (f i)
  | [], [], f, _, _ => ⟨rfl, fun i h => by simp at h⟩
  | x :: xs, a :: avs, f, h, hv => by
    obtain ⟨k1, k2⟩ := argsM_val R h1 hl xs avs (fun i => f (i + 1)) h.2 fun i hi => by have := hv (i + 1) (by simp; omega); rwa [List.getElem_cons_succ] at this
    refine ⟨by simp [k1], fun i hi => ?_⟩
    cases i with
    | succ i => simpa using k2 i (by simpa using hi)
    | zero =>
      have hx := hv 0 (by simp)
      simp only [List.getElem_cons_zero] at hx ⊢
      have h0 := h.1
      unfold argM1 at h0
      split at h0
      · rename_i pv
        split at h0
        · rename_i p pv' hp
          obtain ⟨g1, rfl⟩ := h0
          exact .p _ _ (h1 _ _ ((peekG_val R hx hp g1).2 rfl))
        · exact h0.elim
      · obtain ⟨rfl, hsc⟩ := h0
        exact hx.unren h1 hl hsc
  | [], _ :: _, _, h, _ => h.elim
  | _ :: _, [], _, h, _ => h.elim

theorem call_doesM {o : Oper} {fo : Operand} {args : Array Operand} {ts : Array TypeId} (ho : o.op = .call { callee := .value fo, args := args, argTypes := ts }) {g : FuncId} {cap : List PV} (hfo : s.ev fo = .p (.fn g cap)) {ks : List Nat} {avs : List AV} {H0 H1 : Heap} {r : AV}
    (hc : FnM P g avs H0 r H1) (hargs : argsM s.H ks (args.toList.map s.ev ++ cap.map .p) avs) (hle : LeH ks s.H ks H0) (hnd : ks.Nodup) (hks : ks.all (fun k => decide (k < s.H.length)) = true) (hsc : scM r H0 H1 = true) :
    DoesW P o s (Go.Pv.ren (ks ++ List.range' s.H.length (H1.length - ks.length)) r) (putM s.H ks (H1.map (Blk.ren (ks ++ List.range' s.H.length (H1.length - ks.length))))) := by
  intro C m a w K Q R hK
  have hks' : ∀ k ∈ ks, k < s.H.length := fun k hk => by simpa using (List.all_eq_true.1 hks) k hk
  have hfv := R.ev fo
  rw [hfo] at hfv
  generalize hfe : a.eval fo = fv at hfv
  have hfv := hfv.p_inv
  cases hfv with
  | fn _ _ vs hcl hcr =>
    obtain ⟨⟨fn, hfn, hnm, hbd⟩, hcalls⟩ := hc
    have hrun : (execOp a.eval o).run P w = .ok (.enter g (args.map a.eval ++ vs)) w := by
      have hnm' : ¬ fn.name = "runtime.NumGoroutine" := by simpa using hnm
      have hbd' : ¬ fn.body = none := by intro e; rw [e] at hbd; simp at hbd
      simp [execOp, ho, resolve, hfe, Deferred.ofValue, invoke, callFunc, hfn, hnm', hbd']
    unfold Oper.wp
    rw [hrun]
    simp only [Oper.upon]
    obtain ⟨g1, g2⟩ := hle.get
    have ho1 : ∀ b, OK C m s.H w b → OK (subC C m s.H ks H0 w) (mren m ks) H0 w b := by
      refine fun b h => ⟨.inl h, h.2.1, fun k c l hk hl => ?_⟩
      obtain ⟨k', d, a1, a2, _⟩ := LeH.own g2 k c hk
      simp only [mren, a1, Option.bind_some] at hl
      exact h.2.2 k' _ l a2 hl
    obtain ⟨e1, e2⟩ := argsM_val R (rd' := Reads (OK (subC C m s.H ks H0 w) (mren m ks) H0 w) w) (H0 := H0) (fun p v h => h.mono ho1) g1.symm _ avs (fun i => (args.map a.eval ++ vs).getD i undef) hargs fun i hi => by
      simp only [List.length_append, List.length_map, Array.length_toList] at hi
      by_cases hip : i < args.size
      · rw [List.getElem_append_left (by simpa using hip)]
        simp only [Array.getD_eq_getD_getElem?]
        rw [Array.getElem?_append_left (by simpa using hip)]
        have := R.ev args[i]
        simpa [Array.getElem?_eq_getElem hip] using this
      · rw [List.getElem_append_right (by simp; omega)]
        simp only [Array.getD_eq_getD_getElem?]
        rw [Array.getElem?_append_right (by simp; omega)]
        simp only [List.getElem_map, List.length_map, Array.length_toList, Array.size_map]
        have := hcr (i - args.size) (by omega)
        rw [Array.getD_eq_getD_getElem?] at this
        exact .p _ _ this
    have hsz : (args.map a.eval ++ vs).size = avs.length := by
      rw [e1]; simp; omega
    have s5 : H0.all notAnc = true := by
      unfold scM at hsc
      rw [Bool.and_eq_true] at hsc
      exact hsc.2
    have R0 : Rel (subC C m s.H ks H0 w) (mren m ks) ⟨avs.length, entA 0 avs, H0⟩ (args.map a.eval ++ vs) w := by
      refine R.weakenC (s1 := ⟨avs.length, entA 0 avs, H0⟩) hsz hnd hle ho1 (BelowP.refl _ _) (fun b h => .inl h) (fun k b l h hw hl _ => .inr ⟨k, b, l, h, hw, hl, rfl⟩) (fun k i j h => ?_) fun t => ?_
      · exact absurd rfl (notAnc_spec ((List.all_eq_true.1 s5) _ (List.mem_of_getElem? h)) i j)
      · unfold St.get
        simp only
        rw [entA_lk, if_pos (Nat.zero_le _), Nat.sub_zero]
        by_cases ht : t < avs.length
        · have := e2 t ht
          simpa [List.getD, List.getElem?_eq_getElem ht] using this
        · rw [List.getD_eq_getElem?_getD, List.getElem?_eq_none (by omega)]
          exact .dead _
    have R0' := R0.addAnc (n := H0.length) (Nat.le_refl _) fun i _ => rfl
    refine (hcalls _ _ w _ R0').mono fun e w' ⟨v, m', he, R1⟩ => ?_
    subst he
    obtain ⟨m2, R2, hv⟩ := R.joinM hle hks' R1 hsc
    exact hK v m2 w' R2 hv

/-- THE WORD OF THE WALK: a call that is lent blocks. -/
theorem runs_callM {all : Array Oper} {rest : List Oper} {K : St → Prop} {dst : Option Tmp} {ty : TypeId} {pos : String} {aft : Array Edge} {gd : Option (Nat × Bool)} {fo : Operand} {args : Array Operand} {ts : Array TypeId} {g : FuncId} {avs : List AV} {H0 H1 : Heap} {r : AV} (ks : List Nat)
    (hc : FnM P g avs H0 r H1) {cap : List PV} (hfo : s.ev fo = .p (.fn g cap)) (hg : guardA all s { dst := dst, op := .call { callee := .value fo, args := args, argTypes := ts }, type := ty, pos := pos, after := aft, guard := gd } = some true)
    (hargs : argsM s.H ks (args.toList.map s.ev ++ cap.map .p) avs) (hle : LeH ks s.H ks H0) (hnd : ks.Nodup) (hks : ks.all (fun k => decide (k < s.H.length)) = true) (hsc : scM r H0 H1 = true) (hd : dstOk s dst)
    (h : Runs P false all rest K (({ s with H := putM s.H ks (H1.map (Blk.ren (ks ++ List.range' s.H.length (H1.length - ks.length)))) } : St).put dst (Go.Pv.ren (ks ++ List.range' s.H.length (H1.length - ks.length)) r))) :
    Runs P false all ({ dst := dst, op := .call { callee := .value fo, args := args, argTypes := ts }, type := ty, pos := pos, after := aft, guard := gd } :: rest) K s := by
  obtain ⟨s', hr, hK⟩ := h
  exact ⟨s', .cons (.op s _ _ hg (dstOk_spec hd) (call_doesM rfl hfo hc hargs hle hnd hks hsc) fun h => by cases h) hr, hK⟩

/-! ### How much stands in a map -/

open Classical in
noncomputable def mpLen (d : Int → Bool) : Nat := if h : ∃ l : List Int, l.Nodup ∧ ∀ z, z ∈ l ↔ d z = true then h.choose.length else 0

def keyInt : Value → Int
  | .int _ z => z
  | _ => 0

end

end Go.Pv

/-
  Steps of a region beside those that are evaluated: literal rows as one's own, entries of literal maps. Conditions: none; a library text.
-/
set_option linter.all false

namespace Go.Pv
open Go.RowKit
section
variable {P : Program} {T : TypeId → Option TI} {s : St}
theorem appendNn0_does (hT : ∀ t ti, T t = some ti → tiOf P t = some ti) {o : Oper} {t : TypeId} {x y : Operand} (ho : o.op = .call { callee := .builtin .append, args := #[x, y], argTypes := #[t, t] }) {ti te : TI} (ht : T t = some ti) {e : TypeId} (hk : ti.kind = .slice e) (hte : T e = some te) (hsz : te.size = 1)
    {l : List PV} {k lo : Nat} (hx : s.ev x = .p (.nn l)) (hy : s.ev y = .sl k lo 0) : DoesW P o s (.p (.nn l)) s.H := by
  intro C m a w K Q R hK
  obtain ⟨dst, op, type, pos, after, guard⟩ := o
  simp only at ho
  subst ho
  have hu := ti_slice (hT _ _ ht) hk
  obtain ⟨i, d, z, h1, h2, h3, h4, h5, h6, h7, h8⟩ := tiOf_parts (hT _ _ hte)
  have h := R.ev x
  rw [hx] at h
  have hl := h.p_inv
  obtain ⟨ad, hv⟩ : ∃ ad, a.eval x = .slice (some ad) l.length l.length := by
    generalize a.eval x = v at hl
    rcases hl.nn_inv with ⟨rfl, ad, rfl⟩ | ⟨b, off, sz, vs, rfl, _⟩
    · exact ⟨ad, rfl⟩
    · exact ⟨_, rfl⟩
  have hy' := R.ev y
  rw [hy] at hy'
  obtain ⟨ad2, cap2, hv2⟩ : ∃ ad2 cap2, a.eval y = .slice ad2 0 cap2 := by
    generalize a.eval y = v at hy'
    cases hy' with
    | sl _ _ _ _ _ hs =>
      rcases hs with ⟨_, ad, rfl⟩ | ⟨l', cap, _, rfl, _⟩
      · exact ⟨_, _, rfl⟩
      · exact ⟨_, _, rfl⟩
  have hr := append_nothing (P := P) (w := w) type hu h1 (by rw [h4, hsz]) (ad := some ad) (n := l.length) (cap := l.length) (x := .slice ad2 0 cap2) src_nil (Nat.le_refl _)
  have hrun : (execOp a.eval { dst := dst, op := .call { callee := .builtin .append, args := #[x, y], argTypes := #[t, t] }, type := type, pos := pos, after := after, guard := guard }).run P w = .ok (.value (.slice (some ad) l.length l.length)) w := by
    simp only [BigFrame.execOp_builtin, BigFrame.builtin_append, List.map_toArray, List.map_cons, List.map_nil, hv, hv2, Sem.run_bind, hr, Result.andThen_ok, Sem.run_pure]
  unfold Oper.wp
  rw [hrun]
  rw [hv] at hl
  exact hK _ m w R (.p _ _ hl)
theorem appendNn0_loc (hT : ∀ t ti, T t = some ti → tiOf P t = some ti) {o : Oper} {t : TypeId} {x y : Operand} (ho : o.op = .call { callee := .builtin .append, args := #[x, y], argTypes := #[t, t] }) {ti te : TI} (ht : T t = some ti) {e : TypeId} (hk : ti.kind = .slice e) (hte : T e = some te) (hsz : te.size = 1)
    {l : List PV} {k lo : Nat} (hx : s.ev x = .p (.nn l)) (hy : s.ev y = .sl k lo 0) : Loc1 P o s (.p (.nn l)) s.H := by
  have hx2 : x ∈ o.op.operands := by rw [ho]; simp [Op.operands, Call.operands]
  have hy2 : y ∈ o.op.operands := by rw [ho]; simp [Op.operands, Call.operands]
  refine ⟨fun s2 hn ha hH => ?_, fun hf => by simp [ho, isT] at hf, fun hf => by simp [ho, isW] at hf⟩
  rw [← hH]
  exact appendNn0_does hT ho ht hk hte hsz ((ha _ hx2).trans hx) ((ha _ hy2).trans hy)
theorem runs_opD {draw : Bool} {all : Array Oper} {rest : List Oper} {K : St → Prop} {o : Oper} {av : AV} {H' : Heap} (h1 : Loc1 P o s av H') (hg : guardA all s o = some true) (hd : dstOk s o.dst)
    (h : Runs P draw all rest K (({ s with H := H' } : St).put o.dst av)) : Runs P draw all (o :: rest) K s := by
  obtain ⟨s', hr, hK⟩ := h
  exact ⟨s', .cons (.op s _ _ hg (dstOk_spec hd) (h1.here s rfl (fun _ _ => rfl) rfl) fun _ => h1) hr, hK⟩
theorem runs_at {draw : Bool} {all : Array Oper} {K : St → Prop} (n : Nat) {l : List Oper} (h : Runs P draw all (l.take n) (fun s' => Runs P draw all (l.drop n) K s') s) : Runs P draw all l K s := by
  have gen : ∀ (l1 l2 : List Oper) (s s1 s2 : St), Run1 P draw all l1 s s1 → Run1 P draw all l2 s1 s2 → Run1 P draw all (l1 ++ l2) s s2 := by
    intro l1
    induction l1 with
    | nil => intro l2 s s1 s2 h1 h2; cases h1; exact h2
    | cons o r ih => intro l2 s s1 s2 h1 h2; cases h1 with | cons a b => exact .cons a (ih l2 _ _ _ b h2)
  obtain ⟨s1, h1, s2, h2, hK⟩ := h
  exact ⟨s2, by have := gen _ _ _ _ _ h1 h2; rwa [List.take_append_drop] at this, hK⟩

section
variable {C : Ctx} {m : Map} {tmps : Array Value} {w : World}
end
end
end Go.Pv

/-
  Walks: the law SeriesComposes. Conditions: none.
-/
set_option linter.all false

namespace Go.Proofs.YtjbfkdaodfdpcaaDoor
open Go.Pv

theorem eol_opl (w : List Int) : opl (il w) = ol w := rfl

/-- The numbers, each put where it stands. -/
def ins (z : Int) (l : List Int) : List Int := l.takeWhile (· < z) ++ (z :: l.dropWhile (· < z))
def fac (n : Nat) (T : Nat → Nat → Bool) (k : Nat) : Int := (((thl n (T k)).length / (thl n (T (k + 1))).length : Nat) : Int)
def fos (n : Nat) (T : Nat → Nat → Bool) : Nat → List Int
  | 0 => []
  | k + 1 => ins (fac n T k) (fos n T k)
theorem ins_len (z : Int) (l : List Int) : (ins z l).length = l.length + 1 := by
  unfold ins
  rw [List.length_append, List.length_cons]
  have : (l.takeWhile (· < z)).length + (l.dropWhile (· < z)).length = l.length := by rw [← List.length_append, List.takeWhile_append_dropWhile]
  omega
theorem ins_at {z : Int} {l : List Int} {j : Nat} (hj : j ≤ l.length) (h1 : ∀ i, i < j → l.getD i 0 < z) (h2 : j < l.length → ¬ l.getD j 0 < z) : ins z l = l.take j ++ (z :: l.drop j) := by
  unfold ins
  suffices h : l.takeWhile (· < z) = l.take j ∧ l.dropWhile (· < z) = l.drop j by rw [h.1, h.2]
  induction l generalizing j with
  | nil => simp
  | cons x r ih =>
    cases j with
    | zero =>
      have := h2 (by simp)
      simp at this
      simp [List.takeWhile, List.dropWhile, show decide (x < z) = false from decide_eq_false (by omega)]
    | succ j =>
      have h0 := h1 0 (by omega)
      simp at h0
      obtain ⟨g1, g2⟩ := ih (j := j) (by simpa using hj) (fun i hi => by have := h1 (i + 1) (by omega); simpa using this) (fun hj2 => by have := h2 (by simpa using hj2); simpa using this)
      simp [List.takeWhile, List.dropWhile, h0, g1, g2]

section
variable {n e : Nat} {m : List Int}

/-- Things, conjugated by the things of a list. -/
def cjs (n : Nat) (f : Nat → Nat → Nat) (e x : Nat) (l : List Int) : List Int := l.map fun z => ((cjr n f e x z.toNat : Nat) : Int)
theorem cjs_succ (n : Nat) (f : Nat → Nat → Nat) (e x : Nat) {l : List Int} {i : Nat} (hi : i < l.length) : cjs n f e x (l.take (i + 1)) = cjs n f e x (l.take i) ++ [((cjr n f e x (l.getD i 0).toNat : Nat) : Int)] := by
  unfold cjs
  rw [List.take_succ_eq_append_getElem hi, List.map_append]
  have : l[i] = l.getD i 0 := by simp [List.getD, List.getElem?_eq_getElem hi]
  rw [this]; rfl
theorem cjs_len (n : Nat) (f : Nat → Nat → Nat) (e x : Nat) (l : List Int) : (cjs n f e x l).length = l.length := by simp [cjs]

theorem mxn_span {f : Nat → Nat → Nat} (G : Grp n f e) {p q : Nat → Bool} (hp : Sub n f e p) (h : Mxn n f e p q) {x : Nat} (hx : x < n) (px : p x = true) (qx : q x = false) :
    ∀ a, a < n → (p a = true ↔ Gen n f e (tst (thl n q ++ cjs n f e x (thl n p))) a) := by
  have hin : ∀ c, c < n → (tst (thl n q ++ cjs n f e x (thl n p)) c = true ↔ q c = true ∨ ∃ b, b < n ∧ p b = true ∧ cjr n f e x b = c) := fun c hc => by
    unfold tst
    rw [decide_eq_true_eq, List.mem_append, mem_thl_n hc]
    refine or_congr Iff.rfl ?_
    unfold cjs
    rw [List.mem_map]
    constructor
    · rintro ⟨z, hz, h2⟩
      obtain ⟨b, b1, b2, rfl⟩ := mem_thl.1 hz
      rw [Int.toNat_natCast] at h2
      exact ⟨b, b1, b2, by omega⟩
    · rintro ⟨b, b1, b2, h2⟩
      exact ⟨_, (mem_thl_n b1).2 b2, by rw [Int.toNat_natCast, h2]⟩
  intro a ha
  constructor
  · intro pa
    obtain ⟨t, ht⟩ := gen_ex n f e (tst (thl n q ++ cjs n f e x (thl n p)))
    refine (ht a ha).1 (h.mx x hx px qx t (gen_sub G ht) (fun y hy hq => (ht y hy).2 (Gen.mem G hy ((hin y hy).2 (.inl hq)))) (fun b hb pb => ?_) a ha pa)
    have hc := G.cjr_lt hx hb
    exact (ht _ hc).2 (Gen.mem G hc ((hin _ hc).2 (.inr ⟨b, hb, pb, rfl⟩)))
  · intro hg
    refine hg.sub G hp fun b hb hc => ?_
    rcases (hin b hb).1 hc with h1 | ⟨c, c1, c2, rfl⟩
    · exact h.le b hb h1
    · exact cjr_in G hp hx c1 px c2
end
end Go.Proofs.YtjbfkdaodfdpcaaDoor

/-
  The library's sort by a comparison, over a row of the caller's own: what it leaves. Conditions: none; a library text.
-/
set_option linter.all false
namespace Go.Pv
open Go.RowKit

section
variable {P : Program} {ρ : Go.Shelf.Ren}

end
end Go.Pv

/-
  The library's sort of numbers, over a row of the caller's own: what it leaves. Conditions: none; a library text.
-/
set_option linter.all false
namespace Go.Pv
open Go.RowKit

section
variable {P : Program} {ρ : Go.Shelf.Ren}
def srt (l : List Int) : List Int := l.mergeSort fun x y => decide (x ≤ y)

/-- slices.Sort of numbers: behind it the row holds them in order. -/
theorem sortI_m (L : Go.Proofs.Lays.n189 P ρ) (zs : List Int) (hlen : zs.length < 4611686018427387904) :
    FnM P (ρ.f 189) [.sl 0 0 zs.length] [.own (opl (il zs))] (.p (.tup [])) [.own (opl (il (srt zs)))] := by
  refine ⟨⟨_, L.f189, by kernel_rfl, rfl⟩, fun C m w vals R => ?_⟩
  have hsz : vals.size = 1 := R.size
  have s0 := R.slot 0
  simp only [St.get, entA, lk, BEq.rfl, cond_true] at s0
  generalize hv0 : vals.getD 0 undef = v0 at s0
  have hvals : vals = #[v0] := by
    apply Array.ext
    · simpa using hsz
    · intro i h1 h2
      simp only [Array.getD_eq_getD_getElem?] at hv0
      match i, h2 with
      | 0, _ => rw [Array.getElem?_eq_getElem h1] at hv0; simpa using hv0
  subst hvals
  cases s0 with
  | sl _ _ _ _ hk0 h0 =>
  by_cases hne : zs = []
  · subst hne
    have hcall : ∃ p cp, v0 = .slice p 0 cp := by
      rcases h0 with ⟨_, a, h0⟩ | ⟨l, cp, hm, rfl, hle, hlo⟩
      · exact ⟨a, _, h0⟩
      · exact ⟨_, _, rfl⟩
    obtain ⟨p, cp, rfl⟩ := hcall
    refine (Go.Proofs.Any.slices_Sort_int_none L p cp w).mono fun e2 w2 ⟨he, hw⟩ => ?_
    subst he hw
    rw [show srt ([] : List Int) = [] from by simp [srt]]
    exact ⟨.tuple #[], m, rfl, R.laid, R.below, R.base, rfl, R.inj, R.blk, R.fro, fun t => by
      cases t with
      | zero => exact .p _ _ (.tup [] #[] rfl fun c h => absurd h (by simp))
      | succ t => exact .dead _, R.mp⟩
  have hpos : 0 < zs.length := List.length_pos_iff.2 hne
  rcases h0 with ⟨h0, _⟩ | ⟨l, cp, hm, rfl, hle, hlo⟩
  · omega
  rcases R.blk 0 (opl (il zs)) rfl with ⟨hx, _⟩ | ⟨l', cur, e, hm', hB, hg, hcs, hmx, hol, hcell⟩
  · exact absurd (show zs = [] by simpa [opl, il] using hx) hne
  rw [hm] at hm'; cases hm'
  rw [opl_length, il_length] at hol
  have hblk : l.g < w.heap.size := (Array.getElem?_eq_some_iff.1 hg).1
  have hrd : ∀ j (h : j < zs.length), cur.getD (l.o + j) undef = .int .i64 zs[j] := fun j h => by
    have := hcell j (by rw [opl_length, il_length]; exact h)
    simp only [opl, il, List.getElem_map] at this
    have h2 := this.p_inv
    generalize cur.getD (l.o + j) undef = v at h2 ⊢
    cases h2
    rfl
  have hH : Go.Sort.Holds (Value.int .i64) w l.g (l.o + 0) zs.toArray := fun j hj => by
    have hj' : j < zs.length := by simpa using hj
    have hjc : l.o + j < cur.size := by omega
    refine ⟨?_, ?_⟩
    · rw [getElem!_pos zs.toArray j hj]
      have := hrd j hj'
      simp only [World.cell?, hg, Nat.add_zero]
      simpa [Array.getD_eq_getD_getElem?, Array.getElem?_eq_getElem hjc] using this
    · simp [World.frozen?, hg]
  have hcall := Go.Proofs.Any.slices_Sort_int L l.g (l.o + 0) cp zs w hH hblk hlen
  refine hcall.mono fun e2 w2 ⟨he, n, os, hw⟩ => ?_
  subst he
  refine ⟨.tuple #[], m, rfl, ?_⟩
  have hyl : (srt zs).length = zs.length := (List.mergeSort_perm zs _).length_eq
  have hd' : (zs.mergeSort fun x y => decide (x ≤ y)).toArray.size = zs.length := by simpa using hyl
  have R1 : Rel C m ⟨1, entA 0 [.sl 0 0 zs.length], hset ([.own (opl (il zs))] ++ ancs 0 [Blk.own (opl (il zs))].length) 0 (.own (opl (il (srt zs))))⟩ #[.slice (some ⟨l.g, l.o + 0, none⟩) zs.length cp] (Go.Sort.putRow (Value.int .i64) (Go.Sort.ahead w n) l.g (l.o + 0) (zs.mergeSort fun x y => decide (x ≤ y)).toArray) := by
    refine R.setBlk (a := { tmps := #[.slice (some ⟨l.g, l.o + 0, none⟩) zs.length cp], defers := [] }) (c := opl (il zs)) rfl hm ⟨rfl, rfl, rfl, by simp, fun k hk => ?_, by simp⟩ (fun b hb => ?_) (cur := Go.Sort.putCells (Value.int .i64) (l.o + 0) (zs.mergeSort fun x y => decide (x ≤ y)).toArray cur) (e := e) ?_ (by simp [Go.Sort.putCells, hcs]) (by rw [opl_length, il_length]; omega) fun j hj => ?_
    · simp only [Go.Sort.putRow, Go.Sort.mapBlock, Array.getElem?_modify]
      rw [if_neg (fun e => hk (by rw [← e]; exact hB))]; rfl
    · simp only [Go.Sort.putRow, Go.Sort.mapBlock, Array.getElem?_modify]
      rw [if_neg (Ne.symm hb)]; rfl
    · simp only [Go.Sort.putRow, Go.Sort.mapBlock, Array.getElem?_modify]
      rw [if_pos trivial]
      show Option.map _ (w.heap[l.g]?) = _
      rw [hg]; rfl
    · rw [opl_length, il_length] at hj
      have hjc : l.o + j < cur.size := by omega
      have hjd : j < (zs.mergeSort fun x y => decide (x ≤ y)).toArray.size := by omega
      have e3 : (Go.Sort.putCells (Value.int .i64) (l.o + 0) (zs.mergeSort fun x y => decide (x ≤ y)).toArray cur).getD (l.o + j) undef = .int .i64 ((srt zs)[j]'hj) := by
        simp only [Go.Sort.putCells, Array.getD_eq_getD_getElem?, Array.getElem?_mapIdx, Array.getElem?_eq_getElem hjc, Option.map_some, Option.getD_some]
        rw [if_pos ⟨by omega, by omega⟩, show l.o + j - (l.o + 0) = j by omega, getElem!_pos _ j hjd]
        rfl
      rw [e3]
      have e5 : (opl (il (srt zs)))[j]'(by rw [opl_length, il_length]; exact hj) = .p (.int .i64 ((srt zs)[j]'hj)) := by simp [opl, il]
      rw [e5]
      exact .p _ _ (.int _ _)
  have R2 := R1.later (w' := w2) (by
    rw [hw]
    refine ⟨rfl, rfl, rfl, by simp, fun k hk => ?_, Nat.le_refl _⟩
    exact Go.Sort.heap_grow_old _ _ hk)
  exact ⟨R2.laid, R2.below, R2.base, rfl, R2.inj, R2.blk, R2.fro, fun t => by
    cases t with
    | zero => exact .p _ _ (.tup [] #[] rfl fun c h => absurd h (by simp))
    | succ t => exact .dead _, R2.mp⟩
end
end Go.Pv

/-
  Plain: what the factors of a list of sets are; sorted lists. Conditions: none.
-/
set_option linter.all false
namespace Go.Proofs.YtjbfkdaodfdpcaaDoor

open Go.Pv
theorem srt_perm (l : List Int) : (srt l).Perm l := List.mergeSort_perm _ _
theorem srt_rise (l : List Int) : (srt l).Pairwise (· ≤ ·) := by
  have := List.pairwise_mergeSort (le := fun x y : Int => decide (x ≤ y)) (fun a b c h1 h2 => by
    simp only [decide_eq_true_eq] at *; omega) (fun a b => by
    simp only [Bool.or_eq_true, decide_eq_true_eq]; omega) l
  exact this.imp fun h => by simpa using h
theorem rise_unique : ∀ (xs ys : List Int), xs.Perm ys → xs.Pairwise (· ≤ ·) → ys.Pairwise (· ≤ ·) → xs = ys
  | [], ys, h, _, _ => h.symm.eq_nil.symm
  | x :: r, [], h, _, _ => h.eq_nil
  | x :: r, y :: s, h, h1, h2 => by
    have hxy : x = y := by
      have hx : x ∈ y :: s := h.mem_iff.1 (by simp)
      have hy : y ∈ x :: r := h.mem_iff.2 (by simp)
      rcases List.mem_cons.1 hx with hx | hx
      · exact hx
      · rcases List.mem_cons.1 hy with hy' | hy'
        · exact hy'.symm
        · have a1 := (List.pairwise_cons.1 h1).1 y hy'
          have a2 := (List.pairwise_cons.1 h2).1 x hx
          omega
    subst hxy
    rw [rise_unique r s (List.Perm.cons_inv h) (List.pairwise_cons.1 h1).2 (List.pairwise_cons.1 h2).2]
theorem srt_of {l ys : List Int} (h : ys.Perm l) (hr : ys.Pairwise (· ≤ ·)) : ys = srt l := rise_unique _ _ (h.trans (srt_perm l).symm) hr (srt_rise l)
theorem srt_len (l : List Int) : (srt l).length = l.length := (srt_perm l).length_eq
theorem ins_perm (z : Int) (l : List Int) : (ins z l).Perm (z :: l) := by
  unfold ins
  refine List.perm_middle.trans ?_
  rw [List.takeWhile_append_dropWhile]
theorem ins_rise {z : Int} : ∀ {l : List Int}, l.Pairwise (· ≤ ·) → (ins z l).Pairwise (· ≤ ·)
  | [], _ => by simp [ins]
  | x :: r, h => by
    obtain ⟨h1, h2⟩ := List.pairwise_cons.1 h
    by_cases hx : x < z
    · have : ins z (x :: r) = x :: ins z r := by simp [ins, List.takeWhile, List.dropWhile, hx]
      rw [this]
      refine List.pairwise_cons.2 ⟨fun y hy => ?_, ins_rise h2⟩
      rcases List.mem_cons.1 ((ins_perm z r).mem_iff.1 hy) with rfl | hy
      · omega
      · exact h1 y hy
    · have : ins z (x :: r) = z :: x :: r := by simp [ins, List.takeWhile, List.dropWhile, hx]
      rw [this]
      refine List.pairwise_cons.2 ⟨fun y hy => ?_, h⟩
      rcases List.mem_cons.1 hy with rfl | hy
      · omega
      · have := h1 y hy; omega

section
variable {n e : Nat} {f : Nat → Nat → Nat}
noncomputable def okR (n : Nat) (f : Nat → Nat → Nat) (e : Nat) (l : List Int) : Bool := @decide (∃ p, l = thl n p ∧ Sub n f e p) (Classical.propDecidable _)
theorem okR_iff {l : List Int} : okR n f e l = true ↔ ∃ p, l = thl n p ∧ Sub n f e p := by unfold okR; exact @decide_eq_true_iff _ (Classical.propDecidable _)
theorem okR_thl (G : Grp n f e) {p : Nat → Bool} : okR n f e (thl n p) = true ↔ Sub n f e p := by
  rw [okR_iff]
  refine ⟨fun ⟨q, h1, h2⟩ => ?_, fun h => ⟨p, rfl, h⟩⟩
  have hpq : ∀ a, a < n → p a = q a := fun a ha => by rw [Bool.eq_iff_iff, ← mem_thl_n ha, ← mem_thl_n ha, h1]
  exact sub_of G (by rw [hpq e G.el]; exact h2.one) fun a b ha hb p1 p2 => by
    rw [hpq _ (G.cl a b ha hb)]
    exact h2.mul a b ha hb (by rwa [← hpq a ha]) (by rwa [← hpq b hb])

/-- The test of a row. -/
def tsl (l : List (List Int)) (i : Nat) : Nat → Bool := tst (l.getD i [])
theorem tst_thlF {p : Nat → Bool} {a : Nat} (ha : a < n) : tst (thl n p) a = p a := by
  unfold tst
  rw [Bool.eq_iff_iff, decide_eq_true_eq, mem_thl_n ha]
theorem thl_tst (p : Nat → Bool) : thl n (tst (thl n p)) = thl n p := thl_congr fun a ha => tst_thlF ha
/-- A row that is in its form. -/
theorem okR_row (G : Grp n f e) {l : List Int} (h : okR n f e l = true) : l = thl n (tst l) ∧ Sub n f e (tst l) := by
  obtain ⟨p, rfl, hp⟩ := okR_iff.1 h
  refine ⟨(thl_tst p).symm, ?_⟩
  rw [← okR_thl G, thl_tst]
  exact okR_iff.2 ⟨p, rfl, hp⟩
noncomputable def mxR (n : Nat) (f : Nat → Nat → Nat) (e : Nat) (l : List (List Int)) (k : Nat) : Bool := @decide (Mxn n f e (tsl l k) (tsl l (k + 1))) (Classical.propDecidable _)
theorem mxR_iff {l : List (List Int)} {k : Nat} : mxR n f e l k = true ↔ Mxn n f e (tsl l k) (tsl l (k + 1)) := by unfold mxR; exact @decide_eq_true_iff _ (Classical.propDecidable _)
/-- In a subgroup; normal in it. -/
def Inn (n : Nat) (p q : Nat → Bool) : Prop := ∀ x, x < n → q x = true → p x = true
def Nin (n : Nat) (f : Nat → Nat → Nat) (e : Nat) (p q : Nat → Bool) : Prop := ∀ a x, a < n → x < n → p a = true → q x = true → q (cjr n f e x a) = true
noncomputable def stF (n : Nat) (f : Nat → Nat → Nat) (e : Nat) (p q : Nat → Bool) : Int := @ite _ (Inn n p q) (Classical.propDecidable _) (@ite _ (Nin n f e p q) (Classical.propDecidable _) 6 4) 7
def facL (l : List (List Int)) (k : Nat) : List Int := (List.range k).map fun j => (((l.getD j []).length / (l.getD (j + 1) []).length : Nat) : Int)
theorem facL_succ (l : List (List Int)) (k : Nat) : facL l (k + 1) = facL l k ++ [(((l.getD k []).length / (l.getD (k + 1) []).length : Nat) : Int)] := by
  unfold facL
  rw [List.range_succ, List.map_append]; rfl
theorem facL_len (l : List (List Int)) (k : Nat) : (facL l k).length = k := by simp [facL]

/-- What Factors tells. -/
noncomputable def fsp (n : Nat) (f : Nat → Nat → Nat) (e : Nat) (l : List (List Int)) : List Int × (Int × Int) :=
  bif decide (l.length < 1) || decide (10 < l.length) then ([], (2, 0)) else
  bif decide ((l.getD 0 []).length ≠ n) || decide ((l.getD (l.length - 1) []).length ≠ 1) then ([], (8, 0)) else
  match fst' (fun i => !okR n f e (l.getD i [])) l.length with
  | some i => ([], (5, (i : Int)))
  | none => match fst' (fun k => !mxR n f e l k) (l.length - 1) with
    | some k => ([], (stF n f e (tsl l k) (tsl l (k + 1)), ((k : Int) + 1)))
    | none => (srt (facL l (l.length - 1)), (0, 0))
variable {l : List (List Int)}
theorem fsp_many (h : l.length < 1 ∨ 10 < l.length) : fsp n f e l = ([], (2, 0)) := by
  unfold fsp
  rw [← Bool.decide_or, decide_eq_true h]; rfl
/-- As many sets as can be. -/
structure Fw (n : Nat) (l : List (List Int)) : Prop where
  lo : 1 ≤ l.length
  hi : l.length ≤ 10
theorem fsp_size (hw : Fw n l) (h : (l.getD 0 []).length ≠ n ∨ (l.getD (l.length - 1) []).length ≠ 1) : fsp n f e l = ([], (8, 0)) := by
  have := hw.lo
  have := hw.hi
  unfold fsp
  rw [← Bool.decide_or, decide_eq_false (show ¬ (l.length < 1 ∨ 10 < l.length) by omega), ← Bool.decide_or, decide_eq_true h]; rfl
structure Fz (n : Nat) (l : List (List Int)) : Prop extends Fw n l where
  first : (l.getD 0 []).length = n
  last : (l.getD (l.length - 1) []).length = 1
theorem fsp_next (hz : Fz n l) : fsp n f e l = match fst' (fun i => !okR n f e (l.getD i [])) l.length with
  | some i => ([], (5, (i : Int)))
  | none => match fst' (fun k => !mxR n f e l k) (l.length - 1) with
    | some k => ([], (stF n f e (tsl l k) (tsl l (k + 1)), ((k : Int) + 1)))
    | none => (srt (facL l (l.length - 1)), (0, 0)) := by
  have := hz.lo
  have := hz.hi
  have h1 := hz.first
  have h2 := hz.last
  unfold fsp
  rw [← Bool.decide_or, decide_eq_false (show ¬ (l.length < 1 ∨ 10 < l.length) by omega), ← Bool.decide_or, decide_eq_false (show ¬ ((l.getD 0 []).length ≠ n ∨ (l.getD (l.length - 1) []).length ≠ 1) by omega)]; rfl
theorem fsp_form (hz : Fz n l) {i : Nat} (hi : i < l.length) (h : okR n f e (l.getD i []) = false) (hj : ∀ j, j < i → okR n f e (l.getD j []) = true) : fsp n f e l = ([], (5, (i : Int))) := by
  rw [fsp_next hz, fst_some hi (by rw [h]; rfl) fun j hj2 => by rw [hj j hj2]; rfl]
/-- All in their form. -/
structure Fo (n : Nat) (f : Nat → Nat → Nat) (e : Nat) (l : List (List Int)) : Prop extends Fz n l where
  ok : ∀ i, i < l.length → okR n f e (l.getD i []) = true
theorem fsp_step (h : Fo n f e l) {k : Nat} (hk : k < l.length - 1) (hm : ¬ Mxn n f e (tsl l k) (tsl l (k + 1))) (hj : ∀ j, j < k → Mxn n f e (tsl l j) (tsl l (j + 1))) : fsp n f e l = ([], (stF n f e (tsl l k) (tsl l (k + 1)), (k : Int) + 1)) := by
  rw [fsp_next h.toFz, fst_none fun i hi => by rw [h.ok i hi]; rfl]
  show (match fst' _ _ with | some k => _ | none => _) = _
  rw [fst_some hk (by rw [Bool.not_eq_true', Bool.eq_false_iff]; exact fun hh => hm (mxR_iff.1 hh)) fun j hj2 => by rw [mxR_iff.2 (hj j hj2)]; rfl]
theorem fsp_ok (h : Fo n f e l) (hj : ∀ j, j < l.length - 1 → Mxn n f e (tsl l j) (tsl l (j + 1))) : fsp n f e l = (srt (facL l (l.length - 1)), (0, 0)) := by
  rw [fsp_next h.toFz, fst_none fun i hi => by rw [h.ok i hi]; rfl]
  show (match fst' _ _ with | some k => _ | none => _) = _
  rw [fst_none fun j hj2 => by rw [mxR_iff.2 (hj j hj2)]; rfl]
theorem stF_7 {p q : Nat → Bool} (h : ¬ Inn n p q) : stF n f e p q = 7 := by unfold stF; rw [if_neg h]
theorem stF_4 {p q : Nat → Bool} (h1 : Inn n p q) (h : ¬ Nin n f e p q) : stF n f e p q = 4 := by unfold stF; rw [if_pos h1, if_neg h]
theorem stF_6 {p q : Nat → Bool} (h1 : Inn n p q) (h : Nin n f e p q) : stF n f e p q = 6 := by unfold stF; rw [if_pos h1, if_pos h]
theorem stF_ne {p q : Nat → Bool} : ¬ stF n f e p q = 0 := by
  unfold stF
  split
  · split <;> omega
  · omega
theorem fsp_bad (h : ¬ (fsp n f e l).2.1 = 0) : (fsp n f e l).1 = [] := by
  have key : l.length < 1 ∨ 10 < l.length ∨ Fw n l := by
    by_cases h1 : l.length < 1
    · exact .inl h1
    · by_cases h2 : 10 < l.length
      · exact .inr (.inl h2)
      · exact .inr (.inr ⟨by omega, by omega⟩)
  rcases key with h1 | h1 | hw
  · rw [fsp_many (.inl h1)]
  · rw [fsp_many (.inr h1)]
  by_cases h2 : (l.getD 0 []).length ≠ n ∨ (l.getD (l.length - 1) []).length ≠ 1
  · rw [fsp_size hw h2]
  have hz : Fz n l := ⟨hw, by omega, by omega⟩
  rw [fsp_next hz] at h ⊢
  cases h1 : fst' (fun i => !okR n f e (l.getD i [])) l.length with
  | some i => rfl
  | none =>
    rw [h1] at h
    cases h2 : fst' (fun k => !mxR n f e l k) (l.length - 1) with
    | some k => rfl
    | none => rw [h2] at h; exact (h rfl).elim
/-- Without a fault: all steps are as small as can be. -/
theorem fsp_good (h : (fsp n f e l).2.1 = 0) : Fo n f e l ∧ (∀ j, j < l.length - 1 → Mxn n f e (tsl l j) (tsl l (j + 1))) := by
  have key : l.length < 1 ∨ 10 < l.length ∨ Fw n l := by
    by_cases h1 : l.length < 1
    · exact .inl h1
    · by_cases h2 : 10 < l.length
      · exact .inr (.inl h2)
      · exact .inr (.inr ⟨by omega, by omega⟩)
  rcases key with h1 | h1 | hw
  · rw [fsp_many (.inl h1)] at h; exact absurd h (by decide)
  · rw [fsp_many (.inr h1)] at h; exact absurd h (by decide)
  by_cases h2 : (l.getD 0 []).length ≠ n ∨ (l.getD (l.length - 1) []).length ≠ 1
  · rw [fsp_size hw h2] at h; exact absurd h (by decide)
  have hz : Fz n l := ⟨hw, by omega, by omega⟩
  rw [fsp_next hz] at h
  cases h1 : fst' (fun i => !okR n f e (l.getD i [])) l.length with
  | some i => rw [h1] at h; exact absurd h (show ¬ (5 : Int) = 0 by decide)
  | none =>
    rw [h1] at h
    have ho : Fo n f e l := ⟨hz, fun i hi => by have := fst_spec0 h1 i hi; simpa using this⟩
    cases h2 : fst' (fun k => !mxR n f e l k) (l.length - 1) with
    | some k => rw [h2] at h; exact absurd h stF_ne
    | none => exact ⟨ho, fun j hj => mxR_iff.1 (by have := fst_spec0 h2 j hj; simpa using this)⟩
end
end Go.Proofs.YtjbfkdaodfdpcaaDoor

/-
  Walks: the law QuotMakes. Conditions: none.
-/
set_option linter.all false
namespace Go.Proofs.YtjbfkdaodfdpcaaDoor
open Go.Pv

theorem qtb_GT {n e : Nat} {m : List Int} (h : GT n m n e) {p : Nat → Bool} (hs : Sub n (op m n) e p) (hN : Nml n (op m n) e p) : GT (cst n (dco n (op m n) p (onp e))).length (qtb n (op m n) (dco n (op m n) p (onp e))) (cst n (dco n (op m n) p (onp e))).length (clq n (dco n (op m n) p (onp e)) e) := by
  have G := h.2.2
  have E := G.dco_eqv hs G.onp_sub
  have Q := cst_qm G E fun a b c d ha hb' hc hd h1 h2 => G.rco_cong hs hN ha hb' hc hd h1 h2
  have hcl : (cst n (dco n (op m n) p (onp e))).length ≤ n := cstp_len _ _ _
  have hb := h.2.1.big
  exact tbl_GT' (by omega) (Q.grp G)
theorem qtb_op {n : Nat} {f : Nat → Nat → Nat} {r : Nat → Nat → Bool} {i j : Nat} (hi : i < (cst n r).length) (hj : j < (cst n r).length) : op (qtb n f r) (cst n r).length i j = qop f (clq n r) (rpq n r) i j := tbl_op' _ hi hj

end Go.Proofs.YtjbfkdaodfdpcaaDoor

/-
  Walks: the law QuotSimple. Conditions: none.
-/
set_option linter.all false
namespace Go.Proofs.YtjbfkdaodfdpcaaDoor
open Go.Pv

/-- A group whose things make it, each with its conjugates. -/
def SimP (n e : Nat) (cw : Nat → Nat → Bool) (k : Nat) : Prop := 1 < n ∧ ∀ a, a < k → a = e ∨ (thl n (cw a)).length = n

theorem simple_ok {n e : Nat} {m : List Int} (h : GT n m n e) (cw : Nat → Nat → Bool) (hqa : ∀ a x, x < n → (cw a x = true ↔ Gen n (op m n) e (cup n (op m n) e (onp a)) x)) (b : Bool) (hbs : b = true ↔ SimP n e cw n) :
    FnC Tryd.prog 76 [gp n m] (.tup [.bool b, fl (0, 0)]) := by
  have G := h.2.2
  have hb := h.2.1.big
  have hml := h.2.1.len
  have hsq := sq_le hb
  refine fnc_of tab_ok Tryd.func76 rfl (by kernel_rfl) (by rw [Tryd.ntmps76]; exact Nat.le_add_left 1 _) ?_; rw [Tryd.ntmps76]
  refine qm ?_
  refine hk_region fun K hK => runs_eval tab_ok ?_
  simp only [ev0, evA, evB, evP, fl, gp, tab, simprocAttr, reduceCtorEq, reduceIte]
  refine fin_run ?_ (hK _ ?_) <;> clear hK <;> clear K
  · (first | exact trivial | omega | (simp only [In64] at *; omega) | (simp [In64] at *; omega) | (simp_all; done) | skip)
  refine qa (qm (qm ?_))
  refine hk_region fun K hK => runs_eval tab_ok ?_
  simp only [ev0, evA, evB, evP, fl, gp, tab, simprocAttr, reduceCtorEq, reduceIte]
  refine fin_stop trivial (runs_call (check_c n m (by omega)) rfl rfl rfl (by simp only [dstOk, Nat.reduceLT]) (by repeat (first | exact trivial | constructor)) (runs_eval tab_ok ?_))
  simp only [ev0, evA, evB, evP, fl, gp, tab, simprocAttr, reduceCtorEq, reduceIte, gf_of h]
  refine fin_run ?_ (hK _ ?_) <;> clear hK <;> clear K
  · (first | exact trivial | omega | (simp only [In64] at *; omega) | (simp [In64] at *; omega) | (simp_all; done) | skip)
  refine qa (qm ?_)
  refine hk_region fun K hK => runs_eval tab_ok ?_
  simp only [ev0, evA, evB, evP, fl, gp, tab, simprocAttr, reduceCtorEq, reduceIte]
  refine fin_run ?_ (hK _ ?_) <;> clear hK <;> clear K
  · (first | exact trivial | omega | (simp only [In64] at *; omega) | (simp [In64] at *; omega) | (simp_all; done) | skip)
  refine qa ?_
  refine hk_cond rfl (fun hC1 => ?_) (fun hC1 => ?_)
  · cases hC1
  · (try simp only [nhs] at hC1)
    refine qh (qa (qm (qm ?_)))
    refine hk_region fun K hK => runs_eval tab_ok ?_
    simp only [ev0, evA, evB, evP, fl, gp, tab, simprocAttr, reduceCtorEq, reduceIte]
    refine fin_run ?_ (hK _ ?_) <;> clear hK <;> clear K
    · (first | exact trivial | omega | (simp only [In64] at *; omega) | (simp [In64] at *; omega) | (simp_all; done) | skip)
    refine qa (ql ?_)
    refine hk_loop (ι := Nat) (fun a => ⟨41, [(1, .ptr 0 0), (3, .ptr 1 0), (15, .p (.int .i64 n)), (16, .p (.int .i64 a))], [.own [.p (.int .i64 n), .p (.list (il m))], .own [.p (.int .i64 0), .p (.int .i64 0)]]⟩) (fun a => a ≤ n ∧ ∀ c, c < a → c = e ∨ (thl n (cw c)).length = n) (fun a => n - a) 0 ⟨Nat.zero_le _, fun j hj => by omega⟩ [0, 1] (by simp only [leq, leA, ev0, evA, evB, evP, fl, gp, tab, simprocAttr, reduceCtorEq, reduceIte] <;> trivial) fun a ha => ?_
    obtain ⟨ha1, ha2⟩ := ha
    refine qm ?_
    refine hk_region fun K hK => runs_eval tab_ok ?_
    simp only [ev0, evA, evB, evP, fl, gp, tab, simprocAttr, reduceCtorEq, reduceIte]
    refine fin_run trivial (hK _ ?_) <;> clear hK <;> clear K
    refine qa (qm ?_)
    refine hk_cond rfl (fun hC2 => ?_) (fun hC2 => ?_)
    · (try simp only [nhs] at hC2)
      have hal : a < n := by omega
      refine qh (qa (qm (ql (qm ?_))))
      refine hk_region fun K hK => runs_eval tab_ok ?_
      simp only [ev0, evA, evB, evP, fl, gp, tab, simprocAttr, reduceCtorEq, reduceIte]
      refine fin_run trivial (hK _ ?_) <;> clear hK <;> clear K
      refine qa (qm (qm ?_))
      refine hk_region fun K hK => runs_eval tab_ok ?_
      simp only [ev0, evA, evB, evP, fl, gp, tab, simprocAttr, reduceCtorEq, reduceIte]
      refine fin_stop trivial (runs_call (oneOf_c h) rfl rfl rfl (by simp only [dstOk, Nat.reduceLT]) (by repeat (first | exact trivial | constructor)) (runs_eval tab_ok ?_))
      simp only [ev0, evA, evB, evP, fl, gp, tab, simprocAttr, reduceCtorEq, reduceIte]
      refine fin_run ?_ (hK _ ?_) <;> clear hK <;> clear K
      · (first | exact trivial | omega | (simp only [In64] at *; omega) | (simp [In64] at *; omega) | (simp_all; done) | skip)
      refine qa ?_
      refine hk_cond rfl (fun hC3 => ?_) (fun hC3 => ?_)
      · (try simp only [nhs] at hC3)
        refine qj (qc (qf (qa ?_)))
        refine hk_region fun K hK => runs_eval tab_ok ?_
        simp only [ev0, evA, evB, evP, fl, gp, tab, simprocAttr, reduceCtorEq, reduceIte]
        refine fin_run ?_ (hK _ ?_) <;> clear hK <;> clear K
        · (first | exact trivial | omega | (simp only [In64] at *; omega) | (simp [In64] at *; omega) | (simp_all; done) | skip)
        refine qa ?_
        have hae : a = e := by omega
        refine ⟨a + 1, [0, 1], ⟨by omega, fun c hc => ?_⟩, by omega, ?_⟩
        · by_cases hca : c = a
          · rw [hca]; exact .inl hae
          · exact ha2 c (by omega)
        · simp only [leq, leA, ev0, evA, evB, evP, fl, gp, tab, simprocAttr, reduceCtorEq, reduceIte] <;> first | trivial | omega
      · (try simp only [nhs] at hC3)
        have hae : a ≠ e := fun he => hC3 (by rw [he])
        have hcl := closure_ok h (onp a) (cw a) (hqa a)
        have h1 : thl n (onp a) = [(a : Int)] := thl_one hal
        rw [h1] at hcl
        have hlq := thl_le n (cw a)
        refine qh (qa (qm ?_))
        refine hk_region fun K hK => runs_eval tab_ok ?_
        simp only [ev0, evA, evB, evP, fl, gp, tab, simprocAttr, reduceCtorEq, reduceIte]
        refine fin_stop ?_ (runs_call (FnC.sub (args' := [gp n m, .nn (il [(a : Int)])]) hcl (And.intro (.same _) (And.intro (.nn _) trivial))) rfl rfl rfl (by simp only [dstOk, Nat.reduceLT]) (by repeat (first | exact trivial | constructor)) (runs_eval tab_ok ?_))
        · (first | exact trivial | omega | (simp only [In64] at *; omega) | (simp [In64] at *; omega) | (simp_all; done) | skip)
        simp only [ev0, evA, evB, evP, fl, gp, tab, simprocAttr, reduceCtorEq, reduceIte]
        refine fin_run ?_ (hK _ ?_) <;> clear hK <;> clear K
        · (first | exact trivial | omega | (simp only [In64] at *; omega) | (simp [In64] at *; omega) | (simp_all; done) | skip)
        refine qa (qm ?_)
        refine hk_region fun K hK => runs_eval tab_ok ?_
        simp only [ev0, evA, evB, evP, fl, gp, tab, simprocAttr, reduceCtorEq, reduceIte, il_length]
        refine fin_run ?_ (hK _ ?_) <;> clear hK <;> clear K
        · (first | exact trivial | omega | (simp only [In64] at *; omega) | (simp [In64] at *; omega) | (simp_all; done) | skip)
        refine qa ?_
        refine hk_cond rfl (fun hC4 => ?_) (fun hC4 => ?_)
        · (try simp only [nhs] at hC4)
          refine qm ?_
          refine hk_region fun K hK => runs_eval tab_ok ?_
          simp only [ev0, evA, evB, evP, fl, gp, tab, simprocAttr, reduceCtorEq, reduceIte]
          refine fin_run ?_ (hK _ ?_) <;> clear hK <;> clear K
          · (first | exact trivial | omega | (simp only [In64] at *; omega) | (simp [In64] at *; omega) | (simp_all; done) | skip)
          refine qa (qk (qe (qb (qb (qe (qb ?_))))))
          simp only [Tryd.results76, enA, ev0, evA, evB, evP, fl, gp, tab, simprocAttr, reduceCtorEq, reduceIte]
          have hbf : b = false := by
            cases b with
            | false => rfl
            | true =>
              rcases (hbs.1 rfl).2 a hal with h' | h'
              · exact absurd h' hae
              · omega
          rw [hbf]
        · (try simp only [nhs] at hC4)
          have hfull : (thl n (cw a)).length = n := by omega
          refine qh (qd (qa ?_))
          refine hk_region fun K hK => runs_eval tab_ok ?_
          simp only [ev0, evA, evB, evP, fl, gp, tab, simprocAttr, reduceCtorEq, reduceIte]
          refine fin_run ?_ (hK _ ?_) <;> clear hK <;> clear K
          · (first | exact trivial | omega | (simp only [In64] at *; omega) | (simp [In64] at *; omega) | (simp_all; done) | skip)
          refine qa ?_
          refine ⟨a + 1, [0, 1], ⟨by omega, fun c hc => ?_⟩, by omega, ?_⟩
          · by_cases hca : c = a
            · rw [hca]; exact .inr hfull
            · exact ha2 c (by omega)
          · simp only [leq, leA, ev0, evA, evB, evP, fl, gp, tab, simprocAttr, reduceCtorEq, reduceIte] <;> first | trivial | omega
    · (try simp only [nhs] at hC2)
      refine qj (qc (qc (qf (qa (qm ?_)))))
      refine hk_region fun K hK => runs_eval tab_ok ?_
      simp only [ev0, evA, evB, evP, fl, gp, tab, simprocAttr, reduceCtorEq, reduceIte]
      refine fin_run ?_ (hK _ ?_) <;> clear hK <;> clear K
      · (first | exact trivial | omega | (simp only [In64] at *; omega) | (simp [In64] at *; omega) | (simp_all; done) | skip)
      refine qa (qk ?_)
      simp only [Tryd.results76, enA, ev0, evA, evB, evP, fl, gp, tab, simprocAttr, reduceCtorEq, reduceIte]
      have hbt : decide ((n : Int) > 1) = b := by
        rw [Bool.eq_iff_iff, decide_eq_true_eq, hbs]
        exact ⟨fun h' => ⟨by omega, fun c hc => ha2 c (by omega)⟩, fun h' => by have := h'.1; omega⟩
      rw [hbt]

/-- What a thing is conjugated to. -/
def conl (n : Nat) (f : Nat → Nat → Nat) (e a b : Nat) : List Int := (List.range b).map fun c => ((cjr n f e a c : Nat) : Int)
end Go.Proofs.YtjbfkdaodfdpcaaDoor

/-
  Contracts of the library, laid at this dump: numbers, and that each body is the same. Conditions: none; written by a program of this repo out of the kit's own tool.
-/
set_option linter.all false
namespace Go.Proofs
open Go.Shelf
def Tryd.sortI_ren : Go.Shelf.Ren := ⟨fun | 189 => 77 | 125 => 135 | 257 => 134 | 128 => 172 | 129 => 173 | 294 => 163 | 295 => 164 | 296 => 165 | 297 => 166 | 298 => 167 | 299 => 168 | 216 => 169 | 300 => 170 | 301 => 171 | 328 => 187 | 329 => 188 | 330 => 189 | 331 => 190 | 332 => 191 | 215 => 186 | 343 => 203 | n => n, fun | 28 => 22 | 3 => 3 | 46 => 117 | 0 => 0 | 51 => 144 | 53 => 83 | 4 => 4 | 183 => 136 | 182 => 135 | 131 => 141 | 5 => 5 | 9 => 9 | 218 => 154 | 222 => 158 | 228 => 167 | 229 => 168 | n => n, fun | n => n⟩
theorem Tryd.sortI : Go.Proofs.Lays.n189 Tryd.prog Tryd.sortI_ren := {
  mixed := by kernel_rfl
  f125 := Tryd.func135.trans (congrArg some (by kernel_rfl))
  f128 := Tryd.func172.trans (congrArg some (by kernel_rfl))
  f129 := Tryd.func173.trans (congrArg some (by kernel_rfl))
  f189 := Tryd.func77.trans (congrArg some (by kernel_rfl))
  f215 := Tryd.func186.trans (congrArg some (by kernel_rfl))
  f216 := Tryd.func169.trans (congrArg some (by kernel_rfl))
  f257 := Tryd.func134.trans (congrArg some (by kernel_rfl))
  f294 := Tryd.func163.trans (congrArg some (by kernel_rfl))
  f295 := Tryd.func164.trans (congrArg some (by kernel_rfl))
  f296 := Tryd.func165.trans (congrArg some (by kernel_rfl))
  f297 := Tryd.func166.trans (congrArg some (by kernel_rfl))
  f298 := Tryd.func167.trans (congrArg some (by kernel_rfl))
  f299 := Tryd.func168.trans (congrArg some (by kernel_rfl))
  f300 := Tryd.func170.trans (congrArg some (by kernel_rfl))
  f301 := Tryd.func171.trans (congrArg some (by kernel_rfl))
  f328 := Tryd.func187.trans (congrArg some (by kernel_rfl))
  f329 := Tryd.func188.trans (congrArg some (by kernel_rfl))
  f330 := Tryd.func189.trans (congrArg some (by kernel_rfl))
  f331 := Tryd.func190.trans (congrArg some (by kernel_rfl))
  f332 := Tryd.func191.trans (congrArg some (by kernel_rfl))
  f343 := Tryd.func203.trans (congrArg some (by kernel_rfl))
  t0 := Tryd.underlying0
  a0 := Tryd.isAgg0
  z0 := Tryd.sizeOf0
  v0 := Tryd.zeroValue0
  t3 := Tryd.underlying3
  a3 := Tryd.isAgg3
  z3 := Tryd.sizeOf3
  v3 := Tryd.zeroValue3
  t4 := Tryd.underlying4
  a4 := Tryd.isAgg4
  z4 := Tryd.sizeOf4
  v4 := Tryd.zeroValue4
  t5 := Tryd.underlying5
  a5 := Tryd.isAgg5
  z5 := Tryd.sizeOf5
  v5 := Tryd.zeroValue5
  t9 := Tryd.underlying9
  a9 := Tryd.isAgg9
  z9 := Tryd.sizeOf9
  v9 := Tryd.zeroValue9
  t28 := Tryd.underlying22
  a28 := Tryd.isAgg22
  z28 := Tryd.sizeOf22
  v28 := Tryd.zeroValue22
  t46 := Tryd.underlying117
  a46 := Tryd.isAgg117
  z46 := Tryd.sizeOf117
  v46 := Tryd.zeroValue117
  t51 := Tryd.underlying144
  a51 := Tryd.isAgg144
  z51 := Tryd.sizeOf144
  v51 := Tryd.zeroValue144
  t53 := Tryd.underlying83
  a53 := Tryd.isAgg83
  z53 := Tryd.sizeOf83
  v53 := Tryd.zeroValue83
  t131 := Tryd.underlying141
  a131 := Tryd.isAgg141
  z131 := Tryd.sizeOf141
  v131 := Tryd.zeroValue141
  t182 := Tryd.underlying135
  a182 := Tryd.isAgg135
  z182 := Tryd.sizeOf135
  v182 := Tryd.zeroValue135
  t183 := Tryd.underlying136
  a183 := Tryd.isAgg136
  z183 := Tryd.sizeOf136
  v183 := Tryd.zeroValue136
  t218 := Tryd.underlying154
  a218 := Tryd.isAgg154
  z218 := Tryd.sizeOf154
  v218 := Tryd.zeroValue154
  t222 := Tryd.underlying158
  a222 := Tryd.isAgg158
  z222 := Tryd.sizeOf158
  v222 := Tryd.zeroValue158
  t228 := Tryd.underlying167
  a228 := Tryd.isAgg167
  z228 := Tryd.sizeOf167
  v228 := Tryd.zeroValue167
  t229 := Tryd.underlying168
  a229 := Tryd.isAgg168
  z229 := Tryd.sizeOf168
  v229 := Tryd.zeroValue168 }
end Go.Proofs

/-
  The program's Factors. Conditions: none.
-/
set_option linter.all false
namespace Go.Proofs.YtjbfkdaodfdpcaaDoor
open Go.Pv

section
variable {n e k d : Nat} {f g : Nat → Nat → Nat} {p q : Nat → Bool}
theorem ix_pix {x : Nat} (hx : x < n) (px : p x = true) : ix (thl n p) (x : Int) = ((pix p x : Nat) : Int) := by
  obtain ⟨h1, h2⟩ := pix_at hx px
  unfold ix
  have h3 := fst_some (p := fun i => decide ((thl n p).getD i 0 = (x : Int))) h1 (decide_eq_true h2) fun j hj => decide_eq_false fun h => by
    have := pix_get (show j < (thl n p).length by omega) hx px h
    omega
  rw [h3]
theorem ix_out {x : Nat} (hx : x < n) (px : p x = false) : ix (thl n p) (x : Int) < 0 := by
  refine Int.not_le.1 fun hh => ?_
  obtain ⟨i, i1, i2⟩ := (ix_mem _ _).1 hh
  obtain ⟨y, y1, y2, y3⟩ := thl_get i1
  rw [y3] at i2
  have : y = x := by omega
  rw [this, px] at y2; cases y2
/-- Where the things of the second stand in the first. -/
def kix (p : Nat → Bool) (l : List Int) : List Int := l.map fun z => ((pix p z.toNat : Nat) : Int)
theorem kix_len (p : Nat → Bool) (l : List Int) : (kix p l).length = l.length := by simp [kix]
theorem kix_succ (p : Nat → Bool) {l : List Int} {i : Nat} (hi : i < l.length) : kix p (l.take (i + 1)) = kix p (l.take i) ++ [((pix p (l.getD i 0).toNat : Nat) : Int)] := by
  unfold kix
  rw [List.take_succ_eq_append_getElem hi, List.map_append]
  have : l[i] = l.getD i 0 := by simp [List.getD, List.getElem?_eq_getElem hi]
  rw [this]; rfl
theorem kix_all (hle : Inn n p q) : kix p (thl n q) = thl (thl n p).length (dwn n p q) := by
  have h1 := lft_thl p (dwn n p q) n
  rw [thl_congr (lft_dwn hle)] at h1
  rw [← h1]
  unfold kix
  rw [List.map_map]
  refine (List.map_congr_left fun z hz => ?_).trans (List.map_id _)
  obtain ⟨i, i1, _, rfl⟩ := mem_thl.1 hz
  show ((pix p (((lat n p ((i : Nat) : Int).toNat : Nat) : Int)).toNat : Nat) : Int) = (i : Int)
  rw [Int.toNat_natCast, Int.toNat_natCast, (lat_at i1).2.2.2]

theorem simP_mxn (B : Grp k g d) (cw : Nat → Nat → Bool) (hcw : ∀ a x, x < k → (cw a x = true ↔ Gen k g d (cup k g d (onp a)) x)) : SimP k d cw k ↔ Mxn k g d (fun _ => true) (onp d) := by
  have hfull : ∀ a, (thl k (cw a)).length = k ↔ ∀ y, y < k → cw a y = true := fun a => by
    have : (thl k (cw a)).length = (mem k (cw a)).length := thl_len _ _
    rw [this]; exact mem_all
  constructor
  · rintro ⟨h1, h2⟩
    refine ⟨B.onp_sub, fun _ _ _ => rfl, fun c x hc hx _ h => B.one_nml c hc x hx h, ?_, fun x hx _ hxd t ht h3 h4 y hy _ => ?_⟩
    · by_cases hd : d = 0
      · exact ⟨1, h1, rfl, by cases h : onp d 1 with | false => rfl | true => have := onp_iff.1 h; omega⟩
      · exact ⟨0, by omega, rfl, by cases h : onp d 0 with | false => rfl | true => have := onp_iff.1 h; omega⟩
    · rcases h2 x hx with rfl | h5
      · rw [onp_iff.2 rfl] at hxd; cases hxd
      · refine ((hcw x y hy).1 ((hfull x).1 h5 y hy)).sub B ht fun b hb hc => ?_
        obtain ⟨u, v, u1, v1, u2, rfl⟩ := cup_iff.1 hc
        rw [onp_iff.1 u2]
        exact h4 v v1 rfl
  · intro h
    refine ⟨?_, fun a ha => ?_⟩
    · obtain ⟨x, x1, _, x3⟩ := h.ne
      have xd : x ≠ d := fun h => by rw [onp_iff.2 h] at x3; cases x3
      have := B.el
      omega
    · by_cases had : a = d
      · exact .inl had
      · refine .inr ((hfull a).2 fun y hy => ?_)
        have cs := gen_sub B (hcw a)
        refine h.mx a ha rfl (by cases h : onp d a with | false => rfl | true => exact absurd (onp_iff.1 h) had) (cw a) cs (fun z hz h => by rw [onp_iff.1 h]; exact cs.one) (fun b hb _ => ?_) y hy rfl
        have hl := B.cjr_lt ha hb
        exact (hcw a _ hl).2 (Gen.mem B hl (cup_iff.2 ⟨a, b, ha, hb, onp_iff.2 rfl, rfl⟩))
theorem Hm.mxn_iff {φ : Nat → Nat} (H : Hm n f e p k g d φ) (G : Grp n f e) (hq : Sub n f e q) (h1 : ∀ x, x < n → pre p φ (onp d) x = q x) : Mxn n f e p q ↔ Mxn k g d (fun _ => true) (onp d) := by
  have ht : ∀ x, x < n → pre p φ (fun _ => true) x = p x := fun x hx => by show (p x && true) = p x; rw [Bool.and_true]
  constructor
  · intro h
    exact H.of_pre G H.grp.onp_sub ((h.congr_r G (H.pre_sub G H.grp.onp_sub) h1).congr_l ht)
  · intro h
    exact ((H.pre_mxn G H.grp.all_sub h).congr_r G hq fun x hx => (h1 x hx).symm).congr_l fun x hx => (ht x hx).symm
end

section
variable {n e : Nat} {m : List Int} {p q : Nat → Bool}
def Qr (n : Nat) (m : List Int) (e : Nat) (p q : Nat → Bool) : Nat → Nat → Bool := Go.Proofs.YtjbfkdaodfdpcaaDoor.dco (thl n p).length (op (ptb n (op m n) p) (thl n p).length) (dwn n p q) (onp (pix p e))
theorem part_hm2 (h : GT n m n e) (hp : Sub n (op m n) e p) : Hm n (op m n) e p (thl n p).length (op (ptb n (op m n) p) (thl n p).length) (pix p e) (pix p) :=
  (part_hm h.2.2 hp).cong_op (ptb_op _) (ptb_GT h hp).2.2
theorem dwn_sub2 (h : GT n m n e) (hp : Sub n (op m n) e p) (hq : Sub n (op m n) e q) : Sub (thl n p).length (op (ptb n (op m n) p) (thl n p).length) (pix p e) (dwn n p q) :=
  (dwn_sub h.2.2 hp hq).cong_op (ptb_GT h hp).2.2 (cong_symm (ptb_op _))
theorem dwn_nml2 (h : GT n m n e) (hp : Sub n (op m n) e p) (hle : Inn n p q) : Nml (thl n p).length (op (ptb n (op m n) p) (thl n p).length) (pix p e) (dwn n p q) ↔ Nin n (op m n) e p q := by
  have h1 := dwn_nml (q := q) h.2.2 hp
  constructor
  · intro hh a x ha hx pa qx
    exact h1.1 (hh.cong_op (ptb_grp h.2.2 hp) (ptb_op _)) a x ha hx pa (hle x hx qx) qx
  · intro hh
    exact (h1.2 fun a x ha hx pa _ qx => hh a x ha hx pa qx).cong_op (ptb_GT h hp).2.2 (cong_symm (ptb_op _))
theorem step_gt (h : GT n m n e) (hp : Sub n (op m n) e p) (hq : Sub n (op m n) e q) (hle : Inn n p q) (hN : Nin n (op m n) e p q) :
    ∃ φ d, GT (cst (thl n p).length (Qr n m e p q)).length (qtb (thl n p).length (op (ptb n (op m n) p) (thl n p).length) (Qr n m e p q)) (cst (thl n p).length (Qr n m e p q)).length d ∧
      Hm n (op m n) e p (cst (thl n p).length (Qr n m e p q)).length (op (qtb (thl n p).length (op (ptb n (op m n) p) (thl n p).length) (Qr n m e p q)) (cst (thl n p).length (Qr n m e p q)).length) d φ ∧
      (∀ x, x < n → pre p φ (onp d) x = q x) ∧ (cst (thl n p).length (Qr n m e p q)).length * (mem n q).length = (mem n p).length := by
  have hP := ptb_GT h hp
  have ds := dwn_sub2 h hp hq
  have dn := (dwn_nml2 h hp hle).2 hN
  have hQ := qtb_GT hP ds dn
  have H1 := part_hm2 h hp
  have H2 := (quot_hm hP.2.2 ds dn).cong_op (fun a b ha hb => qtb_op ha hb) hQ.2.2
  refine ⟨_, _, hQ, H1.comp H2, fun x hx => ?_, ?_⟩
  · unfold pre
    cases px : p x with
    | false =>
      cases qx : q x with
      | false => rfl
      | true => rw [hle x hx qx] at px; cases px
    | true =>
      rw [Bool.true_and, Bool.eq_iff_iff, onp_iff]
      refine (quot_ker hP.2.2 ds (H1.lt x hx px)).trans ?_
      unfold dwn
      rw [lat_pix hx px]
  · have := quot_num hP.2.2 ds
    rw [dwn_len hle] at this
    have e1 : (thl n p).length = (mem n p).length := thl_len _ _
    rw [← e1]; exact this

/-- A row as Is has it. -/
theorem row3 (h : GT n m n e) (l : List Int) (hl : l.length ≤ 1000000000000000) : okR n (op m n) e l = true ∨ (okR n (op m n) e l = false ∧ ∃ w : Int × Int, w.1 = 0 ∧ FnC Tryd.prog 55 [gp n m, .list (il l)] (.tup [.bool false, fl w])) ∨ (okR n (op m n) e l = false ∧ ∃ w : Int × Int, ¬ w.1 = 0 ∧ FnC Tryd.prog 55 [gp n m, .list (il l)] (.tup [.bool false, fl w])) := by
  cases ho : okR n (op m n) e l with
  | true => exact .inl rfl
  | false =>
    refine .inr ?_
    rcases sub3 n m l with ⟨n', e', q, h', hn, rfl, hs⟩ | ⟨n', e', q, h', hn, rfl, hs⟩ | hf
    · have : n' = n := by omega
      subst this
      have he : e' = e := by
        have h1 := h'.2.2.one_l e h.2.2.el
        rw [h.2.2.one_r e' h'.2.2.el] at h1
        exact h1
      subst he
      rw [(okR_thl h.2.2).2 hs] at ho; cases ho
    · have : n' = n := by omega
      subst this
      exact .inl ⟨rfl, (0, 0), rfl, is_ok h' q false (by simp [hs])⟩
    · exact .inr ⟨rfl, _, hf, is_no n m l (by have := h.2.1.len; have := sq_le h.2.1.big; omega) hl hf⟩

theorem serFault_c (c a : Int) : FnC Tryd.prog 74 [.int .i64 c, .int .i64 a] (fl (c, a)) := by
  refine fnc_of tab_ok Tryd.func74 rfl (by kernel_rfl) (by rw [Tryd.ntmps74]; exact Nat.le_add_left 2 _) ?_; rw [Tryd.ntmps74]
  refine qm ?_
  refine hk_region fun K hK => runs_eval tab_ok ?_
  simp only [ev0, evA, evB, evP, fl, gp, tab, simprocAttr, reduceCtorEq, reduceIte]
  refine fin_run ?_ (hK _ ?_) <;> clear hK <;> clear K
  · (first | exact trivial | omega | (simp only [In64] at *; omega) | (simp [In64] at *; omega) | (simp_all; done) | skip)
  refine qa (qm ?_)
  refine hk_region fun K hK => runs_eval tab_ok ?_
  simp only [ev0, evA, evB, evP, fl, gp, tab, simprocAttr, reduceCtorEq, reduceIte]
  refine fin_run ?_ (hK _ ?_) <;> clear hK <;> clear K
  · (first | exact trivial | omega | (simp only [In64] at *; omega) | (simp [In64] at *; omega) | (simp_all; done) | skip)
  refine qa (qk ?_)
  simp only [Tryd.results74, enA, ev0, evA, evB, evP, fl, gp, tab, simprocAttr, reduceCtorEq, reduceIte]
  all_goals ((first | exact rfl | exact ⟨rfl, rfl⟩ | exact ⟨rfl, rfl, rfl⟩ | exact ⟨trivial, rfl⟩ | exact ⟨Nat.le_refl _, rfl⟩ | trivial | (simp; done)))

theorem cwx (n : Nat) (f : Nat → Nat → Nat) (e : Nat) : ∃ cw : Nat → Nat → Bool, ∀ a x, x < n → (cw a x = true ↔ Gen n f e (cup n f e (onp a)) x) := by
  obtain ⟨nx, h⟩ := nx_ex n f e (fun p => cup n f e p)
  exact ⟨fun a => nx (onp a), fun a x hx => h (onp a) x hx⟩
set_option maxHeartbeats 8000000 in
set_option maxRecDepth 20000 in
theorem factors_ok (h : GT n m n e) (ls : List (List Int)) (hw : Fw n ls) (hr : ∀ w ∈ ls, w.length ≤ 17592186043904) : FnC Tryd.prog 15 [gp n m, .list (ll ls)] (.tup [.list (il (fsp n (op m n) e ls).1), fl (fsp n (op m n) e ls).2]) := by
  have G := h.2.2
  have hb := h.2.1.big
  have hml := h.2.1.len
  have hsq := sq_le hb
  have hlo := hw.lo
  have hhi := hw.hi
  have hll := ll_length ls
  have hl0 := ll_get (ls := ls) (i := 0) (by omega)
  have hlZ := ll_get (ls := ls) (i := ls.length - 1) (by omega)
  have hl1 : ((ls.length : Int) - 1) = ((ls.length - 1 : Nat) : Int) := by omega
  have hrow : ∀ i, i < ls.length → (ls.getD i []).length ≤ 17592186043904 := fun i hi => hr _ (by simp [List.getD, List.getElem?_eq_getElem hi])
  have hr0 := hrow 0 (by omega)
  have hrZ := hrow (ls.length - 1) (by omega)
  refine fnc_of tab_ok Tryd.func15 rfl (by kernel_rfl) (by rw [Tryd.ntmps15]; exact Nat.le_add_left 2 _) ?_; rw [Tryd.ntmps15]
  refine qm ?_
  refine hk_region fun K hK => runs_eval tab_ok ?_
  simp only [ev0, evA, evB, evP, fl, gp, tab, simprocAttr, reduceCtorEq, reduceIte]
  refine fin_run ?_ (hK _ ?_) <;> clear hK <;> clear K
  · (first | exact trivial | omega | (simp only [In64] at *; omega) | (simp [In64] at *; omega) | (simp_all; done) | skip)
  refine qa (qm (qm ?_))
  refine hk_region fun K hK => runs_eval tab_ok ?_
  simp only [ev0, evA, evB, evP, fl, gp, tab, simprocAttr, reduceCtorEq, reduceIte]
  refine fin_stop trivial (runs_call (check_c n m (by omega)) rfl rfl rfl (by simp only [dstOk, Nat.reduceLT]) (by repeat (first | exact trivial | constructor)) (runs_eval tab_ok ?_))
  simp only [ev0, evA, evB, evP, fl, gp, tab, simprocAttr, reduceCtorEq, reduceIte, gf_of h]
  refine fin_run ?_ (hK _ ?_) <;> clear hK <;> clear K
  · (first | exact trivial | omega | (simp only [In64] at *; omega) | (simp [In64] at *; omega) | (simp_all; done) | skip)
  refine qa (qm ?_)
  refine hk_region fun K hK => runs_eval tab_ok ?_
  simp only [ev0, evA, evB, evP, fl, gp, tab, simprocAttr, reduceCtorEq, reduceIte]
  refine fin_run ?_ (hK _ ?_) <;> clear hK <;> clear K
  · (first | exact trivial | omega | (simp only [In64] at *; omega) | (simp [In64] at *; omega) | (simp_all; done) | skip)
  refine qa ?_
  refine hk_cond rfl (fun hC1 => ?_) (fun hC1 => ?_)
  · cases hC1
  · (try simp only [nhs] at hC1)
    refine qh (qa (qm (qm ?_)))
    refine hk_region fun K hK => runs_eval tab_ok ?_
    simp only [ev0, evA, evB, evP, fl, gp, tab, simprocAttr, reduceCtorEq, reduceIte, ll_length, decide_eq_false (show ¬ ((ls.length : Nat) : Int) < 1 by omega)]
    refine fin_run trivial (hK _ ?_) <;> clear hK <;> clear K
    refine qa ?_
    refine hk_cond rfl (fun hC2 => ?_) (fun hC2 => ?_)
    · (try simp only [nhs] at hC2)
      omega
    · (try simp only [nhs] at hC2)
      refine qh (qa (qm (qm ?_)))
      by_cases k6 : (ls.getD 0 []).length = n
      · refine hk_draw mixed (by kernel_rfl) fun K hK => runs_eval tab_ok ?_
        simp only [ev0, evA, evB, evP, fl, gp, tab, simprocAttr, reduceCtorEq, reduceIte, ll_length, hl0, il_length, hl1, hlZ, bne_self_eq_false, k6]
        refine fin_run ?_ (hK _ ?_) <;> clear hK <;> clear K
        · (first | exact trivial | omega | (simp only [In64] at *; omega) | (simp [In64] at *; omega) | (simp_all; done) | skip)
        refine qa ?_
        refine hk_cond rfl (fun hC3 => ?_) (fun hC3 => ?_)
        · (try simp only [nhs] at hC3)
          have hsz := fsp_size (f := op m n) (e := e) hw (.inr fun hh => hC3 (by omega))
          refine qm ?_
          refine hk_region fun K hK => runs_eval tab_ok ?_
          simp only [ev0, evA, evB, evP, fl, gp, tab, simprocAttr, reduceCtorEq, reduceIte]
          refine fin_stop trivial (runs_call (serFault_c 8 0) rfl rfl rfl (by simp only [dstOk, Nat.reduceLT]) (by repeat (first | exact trivial | constructor)) (runs_eval tab_ok ?_))
          simp only [ev0, evA, evB, evP, fl, gp, tab, simprocAttr, reduceCtorEq, reduceIte]
          refine fin_run ?_ (hK _ ?_) <;> clear hK <;> clear K
          · (first | exact trivial | omega | (simp only [In64] at *; omega) | (simp [In64] at *; omega) | (simp_all; done) | skip)
          refine qa (qk (qb ?_))
          simp only [Tryd.results15, enA, ev0, evA, evB, evP, fl, gp, tab, simprocAttr, reduceCtorEq, reduceIte]
          all_goals (rw [hsz]; exact ⟨rfl, rfl, rfl⟩)
        · (try simp only [nhs] at hC3)
          have hz : Fz n ls := ⟨hw, k6, by omega⟩
          refine qh (qa (qm (qm ?_)))
          refine hk_region fun K hK => runs_eval tab_ok ?_
          simp only [ev0, evA, evB, evP, fl, gp, tab, simprocAttr, reduceCtorEq, reduceIte]
          refine fin_run trivial (hK _ ?_) <;> clear hK <;> clear K
          refine qa (ql ?_)
          refine hk_loop (ι := Nat) (fun i => ⟨153, [(1, .p (.list (ll ls))), (2, .ptr 0 0), (5, .ptr 1 0), (58, .p (.list (ll ls))), (59, .p (.int .i64 ls.length)), (60, .p (.int .i64 i))], [.own [.p (.int .i64 n), .p (.list (il m))], .own [.p (.int .i64 0), .p (.int .i64 0)]]⟩) (fun i => i ≤ ls.length ∧ ∀ j, j < i → okR n (op m n) e (ls.getD j []) = true) (fun i => ls.length - i) 0 ⟨Nat.zero_le _, fun j hj => by omega⟩ [0, 1] (by simp only [leq, leA, ev0, evA, evB, evP, fl, gp, tab, simprocAttr, reduceCtorEq, reduceIte, ll_length] <;> trivial) fun i hi => ?_
          obtain ⟨hi1, hi2⟩ := hi
          refine qm ?_
          refine hk_region fun K hK => runs_eval tab_ok ?_
          simp only [ev0, evA, evB, evP, fl, gp, tab, simprocAttr, reduceCtorEq, reduceIte]
          refine fin_run trivial (hK _ ?_) <;> clear hK <;> clear K
          refine qa (qm ?_)
          refine hk_cond rfl (fun hC4 => ?_) (fun hC4 => ?_)
          · (try simp only [nhs] at hC4)
            have hil : i < ls.length := by omega
            have hli := ll_get (ls := ls) (i := i) hil
            have hri := hrow i hil
            refine qh (qa (qm (ql (qm ?_))))
            refine hk_region fun K hK => runs_eval tab_ok ?_
            simp only [ev0, evA, evB, evP, fl, gp, tab, simprocAttr, reduceCtorEq, reduceIte, ll_length, hli]
            refine fin_run ?_ (hK _ ?_) <;> clear hK <;> clear K
            · (first | exact trivial | omega | (simp only [In64] at *; omega) | (simp [In64] at *; omega) | (simp_all; done) | skip)
            refine qa (qm ?_)
            rcases row3 h (ls.getD i []) (by omega) with hok | ⟨hok, w, hw0, hIs⟩ | ⟨hok, w, hw0, hIs⟩
            · obtain ⟨hrw, hsub⟩ := okR_row G hok
              have hIs := is_ok h (tst (ls.getD i [])) true ⟨fun _ => hsub, fun _ => rfl⟩
              rw [← hrw] at hIs
              refine hk_region fun K hK => runs_eval tab_ok ?_
              simp only [ev0, evA, evB, evP, fl, gp, tab, simprocAttr, reduceCtorEq, reduceIte]
              refine fin_stop trivial (runs_call (hIs) rfl rfl rfl (by simp only [dstOk, Nat.reduceLT]) (by repeat (first | exact trivial | constructor)) (runs_eval tab_ok ?_))
              simp only [ev0, evA, evB, evP, fl, gp, tab, simprocAttr, reduceCtorEq, reduceIte]
              refine fin_run ?_ (hK _ ?_) <;> clear hK <;> clear K
              · (first | exact trivial | omega | (simp only [In64] at *; omega) | (simp [In64] at *; omega) | (simp_all; done) | skip)
              refine qa (qm ?_)
              refine hk_region fun K hK => runs_eval tab_ok ?_
              simp only [ev0, evA, evB, evP, fl, gp, tab, simprocAttr, reduceCtorEq, reduceIte]
              refine fin_run ?_ (hK _ ?_) <;> clear hK <;> clear K
              · (first | exact trivial | omega | (simp only [In64] at *; omega) | (simp [In64] at *; omega) | (simp_all; done) | skip)
              refine qa ?_
              refine hk_cond rfl (fun hC5 => ?_) (fun hC5 => ?_)
              · cases hC5
              · (try simp only [nhs] at hC5)
                refine qh (qd (qa ?_))
                refine hk_region fun K hK => runs_eval tab_ok ?_
                simp only [ev0, evA, evB, evP, fl, gp, tab, simprocAttr, reduceCtorEq, reduceIte]
                refine fin_run ?_ (hK _ ?_) <;> clear hK <;> clear K
                · (first | exact trivial | omega | (simp only [In64] at *; omega) | (simp [In64] at *; omega) | (simp_all; done) | skip)
                refine qa ?_
                refine ⟨i + 1, [0, 1], ⟨by omega, fun j hj => ?_⟩, by omega, ?_⟩
                · by_cases hji : j = i
                  · rw [hji]; exact hok
                  · exact hi2 j (by omega)
                · simp only [leq, leA, ev0, evA, evB, evP, fl, gp, tab, simprocAttr, reduceCtorEq, reduceIte, ll_length] <;> first | trivial | omega
            · refine hk_region fun K hK => runs_eval tab_ok ?_
              simp only [ev0, evA, evB, evP, fl, gp, tab, simprocAttr, reduceCtorEq, reduceIte]
              refine fin_stop trivial (runs_call (hIs) rfl rfl rfl (by simp only [dstOk, Nat.reduceLT]) (by repeat (first | exact trivial | constructor)) (runs_eval tab_ok ?_))
              simp only [ev0, evA, evB, evP, fl, gp, tab, simprocAttr, reduceCtorEq, reduceIte]
              refine fin_run ?_ (hK _ ?_) <;> clear hK <;> clear K
              · (first | exact trivial | omega | (simp only [In64] at *; omega) | (simp [In64] at *; omega) | (simp_all; done) | skip)
              refine qa (qm ?_)
              refine hk_region fun K hK => runs_eval tab_ok ?_
              simp only [ev0, evA, evB, evP, fl, gp, tab, simprocAttr, reduceCtorEq, reduceIte, hw0]
              refine fin_run ?_ (hK _ ?_) <;> clear hK <;> clear K
              · (first | exact trivial | omega | (simp only [In64] at *; omega) | (simp [In64] at *; omega) | (simp_all; done) | skip)
              refine qa ?_
              refine hk_cond rfl (fun hC5 => ?_) (fun hC5 => ?_)
              · (try simp only [nhs] at hC5)
                refine qm ?_
                refine hk_region fun K hK => runs_eval tab_ok ?_
                simp only [ev0, evA, evB, evP, fl, gp, tab, simprocAttr, reduceCtorEq, reduceIte]
                refine fin_stop trivial (runs_call (serFault_c 5 i) rfl rfl rfl (by simp only [dstOk, Nat.reduceLT]) (by repeat (first | exact trivial | constructor)) (runs_eval tab_ok ?_))
                simp only [ev0, evA, evB, evP, fl, gp, tab, simprocAttr, reduceCtorEq, reduceIte]
                refine fin_run ?_ (hK _ ?_) <;> clear hK <;> clear K
                · (first | exact trivial | omega | (simp only [In64] at *; omega) | (simp [In64] at *; omega) | (simp_all; done) | skip)
                refine qa (qk (qe (qb (qb (qe (qb ?_))))))
                simp only [Tryd.results15, enA, ev0, evA, evB, evP, fl, gp, tab, simprocAttr, reduceCtorEq, reduceIte]
                all_goals (rw [fsp_form hz hil hok hi2]; exact ⟨rfl, rfl, rfl⟩)
              · cases hC5
            · refine hk_region fun K hK => runs_eval tab_ok ?_
              simp only [ev0, evA, evB, evP, fl, gp, tab, simprocAttr, reduceCtorEq, reduceIte]
              refine fin_stop trivial (runs_call (hIs) rfl rfl rfl (by simp only [dstOk, Nat.reduceLT]) (by repeat (first | exact trivial | constructor)) (runs_eval tab_ok ?_))
              simp only [ev0, evA, evB, evP, fl, gp, tab, simprocAttr, reduceCtorEq, reduceIte]
              refine fin_run ?_ (hK _ ?_) <;> clear hK <;> clear K
              · (first | exact trivial | omega | (simp only [In64] at *; omega) | (simp [In64] at *; omega) | (simp_all; done) | skip)
              refine qa (qm ?_)
              refine hk_region fun K hK => runs_eval tab_ok ?_
              simp only [ev0, evA, evB, evP, fl, gp, tab, simprocAttr, reduceCtorEq, reduceIte, decide_eq_false hw0]
              refine fin_run ?_ (hK _ ?_) <;> clear hK <;> clear K
              · (first | exact trivial | omega | (simp only [In64] at *; omega) | (simp [In64] at *; omega) | (simp_all; done) | skip)
              refine qa ?_
              refine hk_cond rfl (fun hC5 => ?_) (fun hC5 => ?_)
              · refine qm ?_
                refine hk_region fun K hK => runs_eval tab_ok ?_
                simp only [ev0, evA, evB, evP, fl, gp, tab, simprocAttr, reduceCtorEq, reduceIte]
                refine fin_stop trivial (runs_call (serFault_c 5 i) rfl rfl rfl (by simp only [dstOk, Nat.reduceLT]) (by repeat (first | exact trivial | constructor)) (runs_eval tab_ok ?_))
                simp only [ev0, evA, evB, evP, fl, gp, tab, simprocAttr, reduceCtorEq, reduceIte]
                refine fin_run ?_ (hK _ ?_) <;> clear hK <;> clear K
                · (first | exact trivial | omega | (simp only [In64] at *; omega) | (simp [In64] at *; omega) | (simp_all; done) | skip)
                refine qa (qk (qe (qb (qb (qe (qb ?_))))))
                simp only [Tryd.results15, enA, ev0, evA, evB, evP, fl, gp, tab, simprocAttr, reduceCtorEq, reduceIte]
                all_goals (rw [fsp_form hz hil hok hi2]; exact ⟨rfl, rfl, rfl⟩)
              · cases hC5
          · (try simp only [nhs] at hC4)
            have hin : i = ls.length := by omega
            have ho : Fo n (op m n) e ls := ⟨hz, fun j hj => hi2 j (by omega)⟩
            refine qj (qc (qc (qf (qa (qm ?_)))))
            refine hk_region fun K hK => runs_eval tab_ok ?_
            simp only [ev0, evA, evB, evP, fl, gp, tab, simprocAttr, reduceCtorEq, reduceIte]
            refine fin_run trivial (hK _ ?_) <;> clear hK <;> clear K
            refine qa (qm (qm ?_))
            refine hk_own0 11 rfl ?_
            refine hk_region fun K hK => runs_eval tab_ok ?_
            simp only [ev0, evA, evB, evP, fl, gp, tab, simprocAttr, reduceCtorEq, reduceIte]
            refine fin_run ?_ (hK _ ?_) <;> clear hK <;> clear K
            · (first | exact trivial | omega | (simp only [In64] at *; omega) | (simp [In64] at *; omega) | (simp_all; done) | skip)
            refine qa (ql ?_)
            have htk : List.take (ls.length - 1) (List.drop 1 (ll ls)) = List.drop 1 (ll ls) := List.take_of_length_le (by rw [List.length_drop, ll_length]; exact Nat.le_refl _)
            have hdl : (List.drop 1 (ll ls)).length = ls.length - 1 := by rw [List.length_drop, ll_length]
            have hf0 : facL ls 0 = [] := rfl
            refine hk_loop (ι := Nat) (fun k => ⟨153, [(1, .p (.list (ll ls))), (2, .ptr 0 0), (5, .ptr 1 0), (11, .sl 2 0 (facL ls k).length), (82, .p (.list (List.drop 1 (ll ls)))), (83, .p (.int .i64 ((ls.length - 1 : Nat) : Int))), (84, .p (.int .i64 k))], [.own [.p (.int .i64 n), .p (.list (il m))], .own [.p (.int .i64 0), .p (.int .i64 0)], .own (ol (facL ls k))]⟩) (fun k => k ≤ ls.length - 1 ∧ ∀ j, j < k → Mxn n (op m n) e (tsl ls j) (tsl ls (j + 1))) (fun k => ls.length - k) 0 ⟨Nat.zero_le _, fun j hj => by omega⟩ [0, 1, 2] (by simp only [leq, leA, ev0, evA, evB, evP, fl, gp, tab, simprocAttr, reduceCtorEq, reduceIte, ll_length, htk, hdl, hf0, ol_nil] <;> first | trivial | exact ⟨rfl, rfl⟩ | rfl | omega | trace_state) fun k hk => ?_
            obtain ⟨hk1, hk2⟩ := hk
            have hfl := facL_len ls k
            refine qm ?_
            refine hk_region fun K hK => runs_eval tab_ok ?_
            simp only [ev0, evA, evB, evP, fl, gp, tab, simprocAttr, reduceCtorEq, reduceIte]
            refine fin_run trivial (hK _ ?_) <;> clear hK <;> clear K
            refine qa (qm ?_)
            refine hk_cond rfl (fun hC6 => ?_) (fun hC6 => ?_)
            · (try simp only [nhs] at hC6)
              have hkl : k < ls.length - 1 := by omega
              obtain ⟨hpk, hp⟩ := okR_row G (ho.ok k (by omega))
              obtain ⟨hqk, hq⟩ := okR_row G (ho.ok (k + 1) (by omega))
              have hgk := ll_get (ls := ls) (i := k) (by omega)
              have hgq := ll_get (ls := ls) (i := k + 1) (by omega)
              have hdd : (List.drop 1 (ll ls)).getD k default = (ll ls).getD (k + 1) default := by
                rw [List.getD_eq_getElem?_getD, List.getD_eq_getElem?_getD, List.getElem?_drop, Nat.add_comm]
              have hfs := facL_succ ls k
              have hts : tsl ls k = tst (ls.getD k []) := rfl
              have htq : tsl ls (k + 1) = tst (ls.getD (k + 1) []) := rfl
              rw [← hts] at hpk hp
              rw [← htq] at hqk hq
              clear hts htq
              rw [hgq, hqk] at hdd
              rw [hpk] at hgk
              rw [hpk, hqk] at hfs
              have hst := fsp_step ho hkl (f := op m n)
              generalize hpd : tsl ls k = p at *
              generalize hqd : tsl ls (k + 1) = q at *
              have lp := thl_le n p
              have lq := thl_le n q
              have ep : (thl n p).length = (mem n p).length := thl_len _ _
              have eq' : (thl n q).length = (mem n q).length := thl_len _ _
              have hP := ptb_GT h hp
              refine qh (qa (qm (ql (qm ?_))))
              refine hk_region fun K hK => runs_eval tab_ok ?_
              simp only [ev0, evA, evB, evP, fl, gp, tab, simprocAttr, reduceCtorEq, reduceIte, hdd, hdl]
              refine fin_run ?_ (hK _ ?_) <;> clear hK <;> clear K
              · (first | exact trivial | omega | (simp only [In64] at *; omega) | (simp [In64] at *; omega) | (simp_all; done) | skip)
              refine qa (qm ?_)
              refine hk_draw2 mixed fun K hK => runs2_eval tab_ok ?_
              simp only [evD, ev0, evA, evB, evP, fl, gp, tab, simprocAttr, reduceCtorEq, reduceIte, hgk, ll_length]
              refine fin2_stop ?_ (runs2_call (part_ok h p hp) rfl rfl rfl rfl (by simp only [dstOk, Nat.reduceLT]) (by repeat (first | exact trivial | constructor)) (runs2_eval tab_ok ?_))
              · (first | exact trivial | omega | (simp only [In64] at *; omega) | (simp [In64] at *; omega) | (simp_all; done) | skip)
              simp only [evD, ev0, evA, evB, evP, fl, gp, tab, simprocAttr, reduceCtorEq, reduceIte, hgk, ll_length]
              refine fin2_run ?_ (hK _ _ (by first | kernel_rfl | rfl) ?_) <;> clear hK <;> clear K
              · (first | exact trivial | omega | (simp only [In64] at *; omega) | (simp [In64] at *; omega) | (simp_all; done) | skip)
              refine qa (qm ?_)
              refine hk_region fun K hK => runs_eval tab_ok ?_
              simp only [ev0, evA, evB, evP, fl, gp, tab, simprocAttr, reduceCtorEq, reduceIte]
              refine fin_run trivial (hK _ ?_) <;> clear hK <;> clear K
              refine qa (qm (qm ?_))
              refine hk_own0 16 rfl ?_
              refine hk_region fun K hK => runs_eval tab_ok ?_
              simp only [ev0, evA, evB, evP, fl, gp, tab, simprocAttr, reduceCtorEq, reduceIte, il_length]
              refine fin_run trivial (hK _ ?_) <;> clear hK <;> clear K
              refine qa (ql ?_)
              refine hk_loop (ι := Nat) (fun j => ⟨153, [(1, .p (.list (ll ls))), (2, .ptr 0 0), (5, .ptr 1 0), (11, .sl 2 0 (facL ls k).length), (12, .p (.int .i64 k)), (14, .ptr 3 0), (16, .sl 4 0 (kix p ((thl n q).take j)).length), (82, .p (.list (List.drop 1 (ll ls)))), (83, .p (.int .i64 ((ls.length - 1 : Nat) : Int))), (84, .p (.int .i64 k)), (98, .p (.list (il (thl n q)))), (99, .p (.int .i64 (thl n q).length)), (100, .p (.int .i64 j))], [.own [.p (.int .i64 n), .p (.list (il m))], .own [.p (.int .i64 0), .p (.int .i64 0)], .own (ol (facL ls k)), .own [.p (.int .i64 (thl n p).length), .p (.list (il (ptb n (op m n) p)))], .own (ol (kix p ((thl n q).take j)))]⟩) (fun j => j ≤ (thl n q).length ∧ ∀ i, i < j → p ((thl n q).getD i 0).toNat = true) (fun j => (thl n q).length - j) 0 ⟨Nat.zero_le _, fun j hj => by omega⟩ [0, 1, 2, 3, 5] (by simp only [leq, leA, ev0, evA, evB, evP, fl, gp, tab, simprocAttr, reduceCtorEq, reduceIte] <;> first | trivial | exact ⟨rfl, rfl⟩ | rfl | omega | simp [kix, ol_nil]) fun j hj => ?_
              obtain ⟨hj1, hj2⟩ := hj
              refine qm ?_
              refine hk_region fun K hK => runs_eval tab_ok ?_
              simp only [ev0, evA, evB, evP, fl, gp, tab, simprocAttr, reduceCtorEq, reduceIte]
              refine fin_run trivial (hK _ ?_) <;> clear hK <;> clear K
              refine qa (qm ?_)
              refine hk_cond rfl (fun hC7 => ?_) (fun hC7 => ?_)
              · (try simp only [nhs] at hC7)
                have hjl : j < (thl n q).length := by omega
                obtain ⟨x, x1, x2, x3⟩ := thl_get hjl
                have hkl2 := kix_len p ((thl n q).take j)
                rw [List.length_take] at hkl2
                refine qh (qa (qm (ql (qm ?_))))
                refine hk_region fun K hK => runs_eval tab_ok ?_
                simp only [ev0, evA, evB, evP, fl, gp, tab, simprocAttr, reduceCtorEq, reduceIte, il_get hjl, x3, il_length]
                refine fin_run ?_ (hK _ ?_) <;> clear hK <;> clear K
                · (first | exact trivial | omega | (simp only [In64] at *; omega) | (simp [In64] at *; omega) | (simp_all; done) | skip)
                refine qa (qm ?_)
                by_cases px : p x = true
                · refine hk_region fun K hK => runs_eval tab_ok ?_
                  simp only [ev0, evA, evB, evP, fl, gp, tab, simprocAttr, reduceCtorEq, reduceIte, hgk, ll_length]
                  refine fin_stop ?_ (runs_call (index_c (thl n p) (x : Int) (by omega)) rfl rfl rfl (by simp only [dstOk, Nat.reduceLT]) (by repeat (first | exact trivial | constructor)) (runs_eval tab_ok ?_))
                  · (first | exact trivial | omega | (simp only [In64] at *; omega) | (simp [In64] at *; omega) | (simp_all; done) | skip)
                  simp only [ev0, evA, evB, evP, fl, gp, tab, simprocAttr, reduceCtorEq, reduceIte, ix_pix x1 px, hgk, ll_length]
                  refine fin_run ?_ (hK _ ?_) <;> clear hK <;> clear K
                  · (first | exact trivial | omega | (simp only [In64] at *; omega) | (simp [In64] at *; omega) | (simp_all; done) | skip)
                  refine qa (qm (qm ?_))
                  refine hk_region fun K hK => runs_eval tab_ok ?_
                  simp only [ev0, evA, evB, evP, fl, gp, tab, simprocAttr, reduceCtorEq, reduceIte]
                  refine fin_run trivial (hK _ ?_) <;> clear hK <;> clear K
                  refine qa ?_
                  refine hk_cond rfl (fun hC8 => ?_) (fun hC8 => ?_)
                  · (try simp only [nhs] at hC8)
                    omega
                  · (try simp only [nhs] at hC8)
                    refine qh (qa ?_)
                    refine hk_region fun K hK => runs_eval tab_ok ?_
                    simp only [ev0, evA, evB, evP, fl, gp, tab, simprocAttr, reduceCtorEq, reduceIte]
                    refine fin_run ?_ (hK _ ?_) <;> clear hK <;> clear K
                    · (first | exact trivial | omega | (simp only [In64] at *; omega) | (simp [In64] at *; omega) | (simp_all; done) | skip)
                    refine qd (qa ?_)
                    refine hk_region fun K hK => runs_eval tab_ok ?_
                    simp only [ev0, evA, evB, evP, fl, gp, tab, simprocAttr, reduceCtorEq, reduceIte]
                    refine fin_run ?_ (hK _ ?_) <;> clear hK <;> clear K
                    · (first | exact trivial | omega | (simp only [In64] at *; omega) | (simp [In64] at *; omega) | (simp_all; done) | skip)
                    refine qa ?_
                    refine ⟨j + 1, [0, 1, 2, 3, 5], ⟨by omega, fun i hi => ?_⟩, by omega, ?_⟩
                    · by_cases hij : i = j
                      · rw [hij, x3]; exact px
                      · exact hj2 i (by omega)
                    · rw [kix_succ p hjl, x3, Int.toNat_natCast]
                      simp only [leq, leA, ev0, evA, evB, evP, fl, gp, tab, simprocAttr, reduceCtorEq, reduceIte] <;> first | trivial | omega | (simp only [List.length_append, List.length_cons, List.length_nil]; omega) | exact congrArg ol (List.take_of_length_le (by simp only [List.length_append, List.length_cons, List.length_nil]; omega)).symm | trace_state
                · have pxf : p x = false := by simpa using px
                  refine hk_region fun K hK => runs_eval tab_ok ?_
                  simp only [ev0, evA, evB, evP, fl, gp, tab, simprocAttr, reduceCtorEq, reduceIte, hgk, ll_length]
                  refine fin_stop ?_ (runs_call (index_c (thl n p) (x : Int) (by omega)) rfl rfl rfl (by simp only [dstOk, Nat.reduceLT]) (by repeat (first | exact trivial | constructor)) (runs_eval tab_ok ?_))
                  · (first | exact trivial | omega | (simp only [In64] at *; omega) | (simp [In64] at *; omega) | (simp_all; done) | skip)
                  simp only [ev0, evA, evB, evP, fl, gp, tab, simprocAttr, reduceCtorEq, reduceIte, hgk, ll_length]
                  refine fin_run ?_ (hK _ ?_) <;> clear hK <;> clear K
                  · (first | exact trivial | omega | (simp only [In64] at *; omega) | (simp [In64] at *; omega) | (simp_all; done) | skip)
                  refine qa (qm (qm ?_))
                  refine hk_region fun K hK => runs_eval tab_ok ?_
                  simp only [ev0, evA, evB, evP, fl, gp, tab, simprocAttr, reduceCtorEq, reduceIte]
                  refine fin_run trivial (hK _ ?_) <;> clear hK <;> clear K
                  refine qa ?_
                  refine hk_cond rfl (fun hC8 => ?_) (fun hC8 => ?_)
                  · (try simp only [nhs] at hC8)
                    have hninn : ¬ Inn n p q := fun hh => px (hh x x1 x2)
                    refine qm ?_
                    refine hk_region fun K hK => runs_eval tab_ok ?_
                    simp only [ev0, evA, evB, evP, fl, gp, tab, simprocAttr, reduceCtorEq, reduceIte]
                    refine fin_stop ?_ (runs_call (serFault_c 7 ((k : Int) + 1)) rfl rfl rfl (by simp only [dstOk, Nat.reduceLT]) (by repeat (first | exact trivial | constructor)) (runs_eval tab_ok ?_))
                    · (first | exact trivial | omega | (simp only [In64] at *; omega) | (simp [In64] at *; omega) | (simp_all; done) | skip)
                    simp only [ev0, evA, evB, evP, fl, gp, tab, simprocAttr, reduceCtorEq, reduceIte]
                    refine fin_run ?_ (hK _ ?_) <;> clear hK <;> clear K
                    · (first | exact trivial | omega | (simp only [In64] at *; omega) | (simp [In64] at *; omega) | (simp_all; done) | skip)
                    refine qa (qk (qb (qe (qb (qb (qe (qb (qe (qb (qb (qe (qb ?_))))))))))))
                    simp only [Tryd.results15, enA, ev0, evA, evB, evP, fl, gp, tab, simprocAttr, reduceCtorEq, reduceIte]
                    all_goals (rw [hst (fun hh => hninn fun x hx qx => hh.le x hx qx) hk2, stF_7 hninn]; exact ⟨rfl, rfl, rfl⟩)
                  · (try simp only [nhs] at hC8)
                    exact absurd (ix_out x1 pxf) hC8
              · (try simp only [nhs] at hC7)
                have hjn : j = (thl n q).length := by omega
                have hinn : Inn n p q := fun x hx qx => by
                  obtain ⟨i, i1, i2⟩ := thl_at hx qx
                  have := hj2 i (by omega)
                  rwa [i2, Int.toNat_natCast] at this
                have hka := kix_all hinn
                have ds := dwn_sub2 h hp hq
                rw [hjn, List.take_length, hka]
                refine hk_seal 16 4 rfl rfl ?_
                refine qj (qc (qc (qf (qa (qm ?_)))))
                by_cases hN : Nin n (op m n) e p q
                · have dn := (dwn_nml2 h hp hinn).2 hN
                  have hQuo := quotient_ok hP (dwn n p q) ds dn
                  obtain ⟨φ, d, hQ, hH, hker, hnum⟩ := step_gt h hp hq hinn hN
                  have hmx := hH.mxn_iff G hq hker
                  obtain ⟨cw, hcw⟩ := cwx (cst (thl n p).length (Qr n m e p q)).length (op (qtb (thl n p).length (op (ptb n (op m n) p) (thl n p).length) (Qr n m e p q)) (cst (thl n p).length (Qr n m e p q)).length) d
                  obtain ⟨b, hbs⟩ := truth (SimP (cst (thl n p).length (Qr n m e p q)).length d cw (cst (thl n p).length (Qr n m e p q)).length)
                  have hSim := simple_ok hQ cw hcw b hbs
                  rw [simP_mxn hQ.2.2 cw hcw, ← hmx] at hbs
                  have hqpos := hq.pos G.el
                  have hdiv : (thl n p).length / (thl n q).length = (cst (thl n p).length (Qr n m e p q)).length := by
                    exact Nat.div_eq_of_eq_mul_left (by omega) (by rw [eq']; exact ep.trans hnum.symm)
                  rw [hdiv] at hfs
                  have hKle : (cst (thl n p).length (Qr n m e p q)).length ≤ (thl n p).length := cstp_len _ _ _
                  refine hk_region fun K hK => runs_eval tab_ok ?_
                  simp only [ev0, evA, evB, evP, fl, gp, tab, simprocAttr, reduceCtorEq, reduceIte]
                  refine fin_stop trivial (runs_call (hQuo) rfl rfl rfl (by simp only [dstOk, Nat.reduceLT]) (by repeat (first | exact trivial | constructor)) (runs_eval tab_ok ?_))
                  simp only [ev0, evA, evB, evP, fl, gp, tab, simprocAttr, reduceCtorEq, reduceIte]
                  refine fin_run ?_ (hK _ ?_) <;> clear hK <;> clear K
                  · (first | exact trivial | omega | (simp only [In64] at *; omega) | (simp [In64] at *; omega) | (simp_all; done) | skip)
                  refine qa (qm (qm ?_))
                  refine hk_region fun K hK => runs_eval tab_ok ?_
                  simp only [ev0, evA, evB, evP, fl, gp, tab, simprocAttr, reduceCtorEq, reduceIte]
                  refine fin_run ?_ (hK _ ?_) <;> clear hK <;> clear K
                  · (first | exact trivial | omega | (simp only [In64] at *; omega) | (simp [In64] at *; omega) | (simp_all; done) | skip)
                  refine qa ?_
                  refine hk_cond rfl (fun hC9 => ?_) (fun hC9 => ?_)
                  · cases hC9
                  · (try simp only [nhs] at hC9)
                    refine qh (qa (qm (qm ?_)))
                    refine hk_region fun K hK => runs_eval tab_ok ?_
                    simp only [ev0, evA, evB, evP, fl, gp, tab, simprocAttr, reduceCtorEq, reduceIte]
                    refine fin_stop trivial (runs_call (hSim) rfl rfl rfl (by simp only [dstOk, Nat.reduceLT]) (by repeat (first | exact trivial | constructor)) (runs_eval tab_ok ?_))
                    simp only [ev0, evA, evB, evP, fl, gp, tab, simprocAttr, reduceCtorEq, reduceIte]
                    refine fin_run ?_ (hK _ ?_) <;> clear hK <;> clear K
                    · (first | exact trivial | omega | (simp only [In64] at *; omega) | (simp [In64] at *; omega) | (simp_all; done) | skip)
                    refine qa (qm ?_)
                    refine hk_region fun K hK => runs_eval tab_ok ?_
                    simp only [ev0, evA, evB, evP, fl, gp, tab, simprocAttr, reduceCtorEq, reduceIte]
                    refine fin_run trivial (hK _ ?_) <;> clear hK <;> clear K
                    refine qa ?_
                    refine hk_cond rfl (fun hC10 => ?_) (fun hC10 => ?_)
                    · (try simp only [nhs] at hC10)
                      have hbf : b = false := by simpa using hC10
                      have hno : ¬ Mxn n (op m n) e p q := fun hh => by rw [hbs.2 hh] at hbf; cases hbf
                      refine qm ?_
                      refine hk_region fun K hK => runs_eval tab_ok ?_
                      simp only [ev0, evA, evB, evP, fl, gp, tab, simprocAttr, reduceCtorEq, reduceIte]
                      refine fin_stop ?_ (runs_call (serFault_c 6 ((k : Int) + 1)) rfl rfl rfl (by simp only [dstOk, Nat.reduceLT]) (by repeat (first | exact trivial | constructor)) (runs_eval tab_ok ?_))
                      · (first | exact trivial | omega | (simp only [In64] at *; omega) | (simp [In64] at *; omega) | (simp_all; done) | skip)
                      simp only [ev0, evA, evB, evP, fl, gp, tab, simprocAttr, reduceCtorEq, reduceIte]
                      refine fin_run ?_ (hK _ ?_) <;> clear hK <;> clear K
                      · (first | exact trivial | omega | (simp only [In64] at *; omega) | (simp [In64] at *; omega) | (simp_all; done) | skip)
                      refine qa (qk (qb (qe (qb (qb (qe (qb ?_)))))))
                      simp only [Tryd.results15, enA, ev0, evA, evB, evP, fl, gp, tab, simprocAttr, reduceCtorEq, reduceIte]
                      all_goals (rw [hst hno hk2, stF_6 hinn hN]; exact ⟨rfl, rfl, rfl⟩)
                    · (try simp only [nhs] at hC10)
                      have hbt : b = true := by simpa using hC10
                      have hyes := hbs.1 hbt
                      have hKQ : (((cst (thl n p).length (Qr n m e p q)).length : Nat) : Int) = ((cst (thl n p).length (Go.Proofs.YtjbfkdaodfdpcaaDoor.dco (thl n p).length (op (ptb n (op m n) p) (thl n p).length) (dwn n p q) (onp (pix p e)))).length : Int) := rfl
                      refine qh (qa ?_)
                      refine hk_region fun K hK => runs_eval tab_ok ?_
                      simp only [ev0, evA, evB, evP, fl, gp, tab, simprocAttr, reduceCtorEq, reduceIte]
                      refine fin_run ?_ (hK _ ?_) <;> clear hK <;> clear K
                      · (first | exact trivial | omega | (simp only [In64] at *; omega) | (simp [In64] at *; omega) | (simp_all; done) | skip)
                      refine qd (qa ?_)
                      refine hk_region fun K hK => runs_eval tab_ok ?_
                      simp only [ev0, evA, evB, evP, fl, gp, tab, simprocAttr, reduceCtorEq, reduceIte]
                      refine fin_run ?_ (hK _ ?_) <;> clear hK <;> clear K
                      · (first | exact trivial | omega | (simp only [In64] at *; omega) | (simp [In64] at *; omega) | (simp_all; done) | skip)
                      refine qa ?_
                      refine ⟨k + 1, [0, 1, 8], ⟨by omega, fun j hj => ?_⟩, by omega, ?_⟩
                      · by_cases hjk : j = k
                        · rw [hjk, hpd, hqd]; exact hyes
                        · exact hk2 j (by omega)
                      · rw [hfs, hKQ]
                        simp only [leq, leA, ev0, evA, evB, evP, fl, gp, tab, simprocAttr, reduceCtorEq, reduceIte, ll_length, htk, hdl] <;> first | trivial | omega | (simp only [List.length_append, List.length_cons, List.length_nil]; omega) | exact congrArg ol (List.take_of_length_le (by simp only [List.length_append, List.length_cons, List.length_nil]; omega)).symm | trace_state
                · have hQuo := quotient_w (thl n p).length (ptb n (op m n) p) (thl (thl n p).length (dwn n p q)) (4, 0) (quotN_ok hP (dwn n p q) ds false (by simp [dwn_nml2 h hp hinn, hN])) (by simp)
                  refine hk_region fun K hK => runs_eval tab_ok ?_
                  simp only [ev0, evA, evB, evP, fl, gp, tab, simprocAttr, reduceCtorEq, reduceIte]
                  refine fin_stop trivial (runs_call (hQuo) rfl rfl rfl (by simp only [dstOk, Nat.reduceLT]) (by repeat (first | exact trivial | constructor)) (runs_eval tab_ok ?_))
                  simp only [ev0, evA, evB, evP, fl, gp, tab, simprocAttr, reduceCtorEq, reduceIte]
                  refine fin_run ?_ (hK _ ?_) <;> clear hK <;> clear K
                  · (first | exact trivial | omega | (simp only [In64] at *; omega) | (simp [In64] at *; omega) | (simp_all; done) | skip)
                  refine qa (qm (qm ?_))
                  refine hk_region fun K hK => runs_eval tab_ok ?_
                  simp only [ev0, evA, evB, evP, fl, gp, tab, simprocAttr, reduceCtorEq, reduceIte]
                  refine fin_run ?_ (hK _ ?_) <;> clear hK <;> clear K
                  · (first | exact trivial | omega | (simp only [In64] at *; omega) | (simp [In64] at *; omega) | (simp_all; done) | skip)
                  refine qa ?_
                  refine hk_cond rfl (fun hC9 => ?_) (fun hC9 => ?_)
                  · (try simp only [nhs] at hC9)
                    refine qm ?_
                    refine hk_region fun K hK => runs_eval tab_ok ?_
                    simp only [ev0, evA, evB, evP, fl, gp, tab, simprocAttr, reduceCtorEq, reduceIte]
                    refine fin_stop ?_ (runs_call (serFault_c 4 ((k : Int) + 1)) rfl rfl rfl (by simp only [dstOk, Nat.reduceLT]) (by repeat (first | exact trivial | constructor)) (runs_eval tab_ok ?_))
                    · (first | exact trivial | omega | (simp only [In64] at *; omega) | (simp [In64] at *; omega) | (simp_all; done) | skip)
                    simp only [ev0, evA, evB, evP, fl, gp, tab, simprocAttr, reduceCtorEq, reduceIte]
                    refine fin_run ?_ (hK _ ?_) <;> clear hK <;> clear K
                    · (first | exact trivial | omega | (simp only [In64] at *; omega) | (simp [In64] at *; omega) | (simp_all; done) | skip)
                    refine qa (qk (qb (qe (qb (qb (qe (qb ?_)))))))
                    simp only [Tryd.results15, enA, ev0, evA, evB, evP, fl, gp, tab, simprocAttr, reduceCtorEq, reduceIte]
                    all_goals (rw [hst (fun hh => hN fun a x ha hx pa qx => hh.nml a x ha hx pa qx) hk2, stF_4 hinn hN]; exact ⟨rfl, rfl, rfl⟩)
                  · cases hC9
            · (try simp only [nhs] at hC6)
              have hkl : k = ls.length - 1 := by omega
              have hsort := sortI_m Go.Proofs.Tryd.sortI (facL ls k) (by omega)
              have hsp := fsp_ok ho fun j hj => hk2 j (by omega)
              refine qj (qc (qc (qf (qa (qm ?_)))))
              refine hk_region fun K hK => runs_eval tab_ok ?_
              simp only [ev0, evA, evB, evP, fl, gp, tab, simprocAttr, reduceCtorEq, reduceIte]
              refine fin_stop ?_ (runs_callM [2] (hsort) rfl rfl ?_ (by simp only [leA, ev0, evA, evB, evP, fl, gp, tab, simprocAttr, reduceCtorEq, reduceIte]; first | trivial | (simp only [ll_takeL]; first | trivial | (repeat constructor; done)) | (repeat constructor)) (by decide) (by first | rfl | (simp only [List.length_cons, List.length_nil, List.length_append]; decide)) (by first | rfl | (simp only [scM, opl_sc, List.all_cons, List.all_nil, List.length_cons, List.length_nil]; first | rfl | decide) | (simp [scM, scA, sc1, mpKeep, notAnc]; done)) (by simp only [dstOk, Nat.reduceLT]) (runs_eval tab_ok ?_))
              · (first | exact trivial | omega | (simp only [In64] at *; omega) | (simp [In64] at *; omega) | (simp_all; done) | skip)
              · (simp only [argsM, argM1, peekG, peekS, scA, sc1, ren, ren1, List.map_cons, List.map_nil, List.append_nil, List.cons_append, List.nil_append, enA, ev0, evA, evB, evP, fl, gp, tab, simprocAttr, reduceCtorEq, reduceIte]; try trivial)
              simp only [putM, hset, List.range', Blk.ren, ren, ren1, List.map_cons, List.map_nil, List.cons_append, List.nil_append, List.append_nil, List.length_cons, List.length_nil, ev0, evA, evB, evP, fl, gp, tab, simprocAttr, reduceCtorEq, reduceIte]
              refine fin_run trivial (hK _ ?_) <;> clear hK <;> clear K
              refine qa (qm ?_)
              refine hk_region fun K hK => runs_eval tab_ok ?_
              simp only [ev0, evA, evB, evP, fl, gp, tab, simprocAttr, reduceCtorEq, reduceIte]
              refine fin_run ?_ (hK _ ?_) <;> clear hK <;> clear K
              · (first | exact trivial | omega | (simp only [In64] at *; omega) | (simp [In64] at *; omega) | (simp_all; done) | skip)
              refine qa (qk ?_)
              simp only [Tryd.results15, enA, ev0, evA, evB, evP, fl, gp, tab, simprocAttr, reduceCtorEq, reduceIte]
              all_goals (rw [hsp, List.take_of_length_le (by rw [srt_len]; exact Nat.le_refl _), hkl, srt_len]; exact ⟨Nat.le_refl _, rfl, rfl, rfl⟩)
      · refine hk_draw mixed (by kernel_rfl) fun K hK => runs_eval tab_ok ?_
        simp only [ev0, evA, evB, evP, fl, gp, tab, simprocAttr, reduceCtorEq, reduceIte, ll_length, hl0, il_length, decide_eq_false (show ¬ (((ls.getD 0 []).length : Nat) : Int) = (n : Int) by omega)]
        refine fin_run ?_ (hK _ ?_) <;> clear hK <;> clear K
        · (first | exact trivial | omega | (simp only [In64] at *; omega) | (simp [In64] at *; omega) | (simp_all; done) | skip)
        refine qa ?_
        refine hk_cond rfl (fun hC3 => ?_) (fun hC3 => ?_)
        · have hsz := fsp_size (f := op m n) (e := e) hw (.inl k6)
          refine qm ?_
          refine hk_region fun K hK => runs_eval tab_ok ?_
          simp only [ev0, evA, evB, evP, fl, gp, tab, simprocAttr, reduceCtorEq, reduceIte]
          refine fin_stop trivial (runs_call (serFault_c 8 0) rfl rfl rfl (by simp only [dstOk, Nat.reduceLT]) (by repeat (first | exact trivial | constructor)) (runs_eval tab_ok ?_))
          simp only [ev0, evA, evB, evP, fl, gp, tab, simprocAttr, reduceCtorEq, reduceIte]
          refine fin_run ?_ (hK _ ?_) <;> clear hK <;> clear K
          · (first | exact trivial | omega | (simp only [In64] at *; omega) | (simp [In64] at *; omega) | (simp_all; done) | skip)
          refine qa (qk (qb ?_))
          simp only [Tryd.results15, enA, ev0, evA, evB, evP, fl, gp, tab, simprocAttr, reduceCtorEq, reduceIte]
          all_goals (rw [hsz]; exact ⟨rfl, rfl, rfl⟩)
        · cases hC3
theorem factors_many (h : GT n m n e) (ls : List (List Int)) (hw : ls.length < 1 ∨ 10 < ls.length) (hl : ls.length ≤ 1000000000) : FnC Tryd.prog 15 [gp n m, .list (ll ls)] (.tup [.list (il (fsp n (op m n) e ls).1), fl (fsp n (op m n) e ls).2]) := by
  have hb := h.2.1.big
  have hml := h.2.1.len
  have hsq := sq_le hb
  rw [fsp_many hw]
  refine fnc_of tab_ok Tryd.func15 rfl (by kernel_rfl) (by rw [Tryd.ntmps15]; exact Nat.le_add_left 2 _) ?_; rw [Tryd.ntmps15]
  refine qm ?_
  refine hk_region fun K hK => runs_eval tab_ok ?_
  simp only [ev0, evA, evB, evP, fl, gp, tab, simprocAttr, reduceCtorEq, reduceIte]
  refine fin_run ?_ (hK _ ?_) <;> clear hK <;> clear K
  · (first | exact trivial | omega | (simp only [In64] at *; omega) | (simp [In64] at *; omega) | (simp_all; done) | skip)
  refine qa (qm (qm ?_))
  refine hk_region fun K hK => runs_eval tab_ok ?_
  simp only [ev0, evA, evB, evP, fl, gp, tab, simprocAttr, reduceCtorEq, reduceIte]
  refine fin_stop trivial (runs_call (check_c n m (by omega)) rfl rfl rfl (by simp only [dstOk, Nat.reduceLT]) (by repeat (first | exact trivial | constructor)) (runs_eval tab_ok ?_))
  simp only [ev0, evA, evB, evP, fl, gp, tab, simprocAttr, reduceCtorEq, reduceIte, gf_of h]
  refine fin_run ?_ (hK _ ?_) <;> clear hK <;> clear K
  · (first | exact trivial | omega | (simp only [In64] at *; omega) | (simp [In64] at *; omega) | (simp_all; done) | skip)
  refine qa (qm ?_)
  refine hk_region fun K hK => runs_eval tab_ok ?_
  simp only [ev0, evA, evB, evP, fl, gp, tab, simprocAttr, reduceCtorEq, reduceIte]
  refine fin_run ?_ (hK _ ?_) <;> clear hK <;> clear K
  · (first | exact trivial | omega | (simp only [In64] at *; omega) | (simp [In64] at *; omega) | (simp_all; done) | skip)
  refine qa ?_
  refine hk_cond rfl (fun hC1 => ?_) (fun hC1 => ?_)
  · cases hC1
  · (try simp only [nhs] at hC1)
    refine qh (qa (qm (qm ?_)))
    by_cases k4 : ls.length < 1
    · refine hk_region fun K hK => runs_eval tab_ok ?_
      simp only [ev0, evA, evB, evP, fl, gp, tab, simprocAttr, reduceCtorEq, reduceIte, ll_length, decide_eq_true (show ((ls.length : Nat) : Int) < 1 by omega)]
      refine fin_run trivial (hK _ ?_) <;> clear hK <;> clear K
      refine qa ?_
      refine hk_cond rfl (fun hC2 => ?_) (fun hC2 => ?_)
      · refine qm ?_
        refine hk_region fun K hK => runs_eval tab_ok ?_
        simp only [ev0, evA, evB, evP, fl, gp, tab, simprocAttr, reduceCtorEq, reduceIte]
        refine fin_stop trivial (runs_call (serFault_c 2 0) rfl rfl rfl (by simp only [dstOk, Nat.reduceLT]) (by repeat (first | exact trivial | constructor)) (runs_eval tab_ok ?_))
        simp only [ev0, evA, evB, evP, fl, gp, tab, simprocAttr, reduceCtorEq, reduceIte]
        refine fin_run ?_ (hK _ ?_) <;> clear hK <;> clear K
        · (first | exact trivial | omega | (simp only [In64] at *; omega) | (simp [In64] at *; omega) | (simp_all; done) | skip)
        refine qa (qk (qb ?_))
        simp only [Tryd.results15, enA, ev0, evA, evB, evP, fl, gp, tab, simprocAttr, reduceCtorEq, reduceIte]
        all_goals (simp [il])
      · cases hC2
    · refine hk_region fun K hK => runs_eval tab_ok ?_
      simp only [ev0, evA, evB, evP, fl, gp, tab, simprocAttr, reduceCtorEq, reduceIte, ll_length, decide_eq_false (show ¬ ((ls.length : Nat) : Int) < 1 by omega)]
      refine fin_run trivial (hK _ ?_) <;> clear hK <;> clear K
      refine qa ?_
      refine hk_cond rfl (fun hC2 => ?_) (fun hC2 => ?_)
      · (try simp only [nhs] at hC2)
        refine qm ?_
        refine hk_region fun K hK => runs_eval tab_ok ?_
        simp only [ev0, evA, evB, evP, fl, gp, tab, simprocAttr, reduceCtorEq, reduceIte]
        refine fin_stop trivial (runs_call (serFault_c 2 0) rfl rfl rfl (by simp only [dstOk, Nat.reduceLT]) (by repeat (first | exact trivial | constructor)) (runs_eval tab_ok ?_))
        simp only [ev0, evA, evB, evP, fl, gp, tab, simprocAttr, reduceCtorEq, reduceIte]
        refine fin_run ?_ (hK _ ?_) <;> clear hK <;> clear K
        · (first | exact trivial | omega | (simp only [In64] at *; omega) | (simp [In64] at *; omega) | (simp_all; done) | skip)
        refine qa (qk (qb ?_))
        simp only [Tryd.results15, enA, ev0, evA, evB, evP, fl, gp, tab, simprocAttr, reduceCtorEq, reduceIte]
        all_goals (simp [il])
      · (try simp only [nhs] at hC2)
        omega
theorem factors_no (N : Int) (m : List Int) (ls : List (List Int)) (hm : m.length ≤ 1000000000000000) (hf : ¬ (gf N m).1 = 0) : FnC Tryd.prog 15 [gp N m, .list (ll ls)] (.tup [.list [], fl (gf N m)]) := by
  refine fnc_of tab_ok Tryd.func15 rfl (by kernel_rfl) (by rw [Tryd.ntmps15]; exact Nat.le_add_left 2 _) ?_; rw [Tryd.ntmps15]
  refine qm ?_
  refine hk_region fun K hK => runs_eval tab_ok ?_
  simp only [ev0, evA, evB, evP, fl, gp, tab, simprocAttr, reduceCtorEq, reduceIte]
  refine fin_run ?_ (hK _ ?_) <;> clear hK <;> clear K
  · (first | exact trivial | omega | (simp only [In64] at *; omega) | (simp [In64] at *; omega) | (simp_all; done) | skip)
  refine qa (qm (qm ?_))
  refine hk_region fun K hK => runs_eval tab_ok ?_
  simp only [ev0, evA, evB, evP, fl, gp, tab, simprocAttr, reduceCtorEq, reduceIte]
  refine fin_stop trivial (runs_call (check_c N m hm) rfl rfl rfl (by simp only [dstOk, Nat.reduceLT]) (by repeat (first | exact trivial | constructor)) (runs_eval tab_ok ?_))
  simp only [ev0, evA, evB, evP, fl, gp, tab, simprocAttr, reduceCtorEq, reduceIte]
  refine fin_run ?_ (hK _ ?_) <;> clear hK <;> clear K
  · (first | exact trivial | omega | (simp only [In64] at *; omega) | (simp [In64] at *; omega) | (simp_all; done) | skip)
  refine qa (qm ?_)
  refine hk_region fun K hK => runs_eval tab_ok ?_
  simp only [ev0, evA, evB, evP, fl, gp, tab, simprocAttr, reduceCtorEq, reduceIte]
  refine fin_run ?_ (hK _ ?_) <;> clear hK <;> clear K
  · (first | exact trivial | omega | (simp only [In64] at *; omega) | (simp [In64] at *; omega) | (simp_all; done) | skip)
  refine qa ?_
  refine hk_cond rfl (fun hC1 => ?_) (fun hC1 => ?_)
  · (try simp only [nhs] at hC1)
    refine qm ?_
    refine hk_draw mixed (by kernel_rfl) fun K hK => runs_eval tab_ok ?_
    simp only [ev0, evA, evB, evP, fl, gp, tab, simprocAttr, reduceCtorEq, reduceIte]
    refine fin_run ?_ (hK _ ?_) <;> clear hK <;> clear K
    · (first | exact trivial | omega | (simp only [In64] at *; omega) | (simp [In64] at *; omega) | (simp_all; done) | skip)
    refine qa (qk (qb ?_))
    simp only [Tryd.results15, enA, ev0, evA, evB, evP, fl, gp, tab, simprocAttr, reduceCtorEq, reduceIte]
    all_goals (simp [ll])
  · (try simp only [nhs] at hC1)
    exact absurd hC1 hf
end
end Go.Proofs.YtjbfkdaodfdpcaaDoor

/-
  The document's Factors. Conditions: none.
-/
set_option linter.all false
namespace Go.Proofs.YtjbfkdaodfdpcaaDoor
open Go.Pv

section
variable {n e : Nat} {f : Nat → Nat → Nat} {p q : Nat → Bool}
def inz (ls : List (List Int)) : Nat → List Int
  | 0 => []
  | k + 1 => ins (((ls.getD k []).length / (ls.getD (k + 1) []).length : Nat) : Int) (inz ls k)
theorem inz_len (ls : List (List Int)) : ∀ k, (inz ls k).length = k
  | 0 => rfl
  | k + 1 => by show (ins _ _).length = _; rw [ins_len, inz_len ls k]
theorem inz_srt (ls : List (List Int)) (k : Nat) : inz ls k = srt (facL ls k) := by
  have hp : ∀ k, (inz ls k).Perm (facL ls k) := by
    intro k
    induction k with
    | zero => exact List.Perm.refl _
    | succ k ih =>
      rw [facL_succ]
      exact (ins_perm _ _).trans ((ih.cons _).trans (List.perm_append_singleton _ _).symm)
  have hr : ∀ k, (inz ls k).Pairwise (· ≤ ·) := by
    intro k
    induction k with
    | zero => exact List.Pairwise.nil
    | succ k ih => exact ins_rise ih
  exact srt_of (hp k) (hr k)
theorem nin_shf (G : Grp n f e) (hp : Sub n f e p) (hN : Nin n f e p q) {a : Nat} (ha : a < n) (pa : p a = true) : thl n (shf n f e q a) = thl n q := thl_congr fun y hy => by
  rw [G.shf_back ha hy, Bool.eq_iff_iff]
  have hi := G.iv_lt ha
  constructor
  · intro h1
    have := hN a _ ha (G.cjr_lt hy hi) pa h1
    rwa [G.cjr_vi hy ha] at this
  · exact fun h1 => hN _ y hi hy (hp.inv _ ha pa) h1
theorem shf_nin (G : Grp n f e) (h : ∀ a, a < n → p a = true → thl n (shf n f e q a) = thl n q) : Nin n f e p q := fun a x ha hx pa qx => by
  have hl := G.cjr_lt hx ha
  rw [← thl_inj (h a ha pa) hl]
  exact shf_iff.2 ⟨x, hx, qx, rfl⟩
/-- What the second and a conjugated thing make. -/
def cjg (n : Nat) (f : Nat → Nat → Nat) (e : Nat) (p q : Nat → Bool) (x : Nat) : Nat → Bool := tst (thl n q ++ cjs n f e x (thl n p))
theorem cjg_iff (G : Grp n f e) {x c : Nat} (hx : x < n) (hc : c < n) : cjg n f e p q x c = true ↔ q c = true ∨ ∃ b, b < n ∧ p b = true ∧ cjr n f e x b = c := by
  unfold cjg tst
  rw [decide_eq_true_eq, List.mem_append, mem_thl_n hc]
  refine or_congr Iff.rfl ?_
  unfold cjs
  rw [List.mem_map]
  constructor
  · rintro ⟨z, hz, h2⟩
    obtain ⟨b, b1, b2, rfl⟩ := mem_thl.1 hz
    rw [Int.toNat_natCast] at h2
    exact ⟨b, b1, b2, by omega⟩
  · rintro ⟨b, b1, b2, h2⟩
    exact ⟨_, (mem_thl_n b1).2 b2, by rw [Int.toNat_natCast, h2]⟩
theorem cjg_le (G : Grp n f e) (hp : Sub n f e p) (hle : Inn n p q) {x : Nat} (hx : x < n) (px : p x = true) : ∀ a, a < n → gn n f e (cjg n f e p q x) a = true → p a = true := fun a ha h =>
  ((gn_iff _ a ha).1 h).sub G hp fun b hb hc => by
    rcases (cjg_iff G hx hb).1 hc with h1 | ⟨c, c1, c2, rfl⟩
    · exact hle b hb h1
    · exact cjr_in G hp hx c1 px c2
theorem cjg_full (G : Grp n f e) (hp : Sub n f e p) (hle : Inn n p q) {x : Nat} (hx : x < n) (px : p x = true) (h : (thl n (gn n f e (cjg n f e p q x))).length = (thl n p).length) : ∀ a, a < n → p a = true → gn n f e (cjg n f e p q x) a = true := fun a ha pa => by
  refine Classical.byContradiction fun hh => ?_
  have e1 : (thl n p).length = (mem n p).length := thl_len _ _
  have e2 : (thl n (gn n f e (cjg n f e p q x))).length = (mem n (gn n f e (cjg n f e p q x))).length := thl_len _ _
  have := mem_lt (cjg_le G hp hle hx px) fun hc => hh (by rw [hc a ha]; exact pa)
  omega
theorem cjg_mxn (G : Grp n f e) (hp : Sub n f e p) (h : Mxn n f e p q) {x : Nat} (hx : x < n) (px : p x = true) (qx : q x = false) : (thl n (gn n f e (cjg n f e p q x))).length = (thl n p).length := by
  congr 1
  exact thl_congr fun a ha => by
    rw [Bool.eq_iff_iff, gn_iff _ a ha]
    exact (mxn_span G hp h hx px qx a ha).symm
theorem mxn_cjg (G : Grp n f e) (hp : Sub n f e p) (hq : Sub n f e q) (hle : Inn n p q) (hN : Nin n f e p q) (hne : ¬ (thl n p).length = (thl n q).length) (h : ∀ x, x < n → p x = true → q x = false → (thl n (gn n f e (cjg n f e p q x))).length = (thl n p).length) : Mxn n f e p q where
  sub := hq
  le := hle
  nml := hN
  ne := Classical.byContradiction fun hh => hne (by
    congr 1
    exact thl_congr fun x hx => by
      rw [Bool.eq_iff_iff]
      refine ⟨fun px => ?_, hle x hx⟩
      cases qx : q x with
      | true => rfl
      | false => exact absurd ⟨x, hx, px, qx⟩ hh)
  mx x hx px qx t ht h1 h2 y hy py := by
    refine ((gn_iff _ y hy).1 (cjg_full G hp hle hx px (h x hx px qx) y hy py)).sub G ht fun b hb hc => ?_
    rcases (cjg_iff G hx hb).1 hc with h3 | ⟨c, c1, c2, rfl⟩
    · exact h1 b hb h3
    · exact h2 c c1 c2
end

section
variable {n e : Nat} {m : List Int}
theorem rowD (h : GT n m n e) (l : List Int) : okR n (op m n) e l = true ∨ (okR n (op m n) e l = false ∧ ∃ q, l = thl n q ∧ ¬ Sub n (op m n) e q) ∨ (okR n (op m n) e l = false ∧ ¬ (lf n l).1 = 0) := by
  cases ho : okR n (op m n) e l with
  | true => exact .inl rfl
  | false =>
    refine .inr ?_
    rcases sub3 n m l with ⟨n', e', q, h', hn, rfl, hs⟩ | ⟨n', e', q, h', hn, rfl, hs⟩ | hf
    · have : n' = n := by omega
      subst this
      have he : e' = e := by
        have h1 := h'.2.2.one_l e h.2.2.el
        rw [h.2.2.one_r e' h'.2.2.el] at h1
        exact h1
      subst he
      rw [(okR_thl h.2.2).2 hs] at ho; cases ho
    · have : n' = n := by omega
      subst this
      have he : e' = e := by
        have h1 := h'.2.2.one_l e h.2.2.el
        rw [h.2.2.one_r e' h'.2.2.el] at h1
        exact h1
      subst he
      exact .inl ⟨rfl, q, rfl, hs⟩
    · refine .inr ⟨rfl, fun hl => hf ?_⟩
      unfold sf
      rw [gf_of h]
      exact hl

theorem sownF_c (w : List Int) (hl : w.length ≤ 1000000000) : FnG Tryd.prog 46 [.list (il w)] (.sl 0 0 w.length) [.own (opl (il w))] := by
  refine fng_of tab_ok Tryd.func46 rfl (by kernel_rfl) (by rw [Tryd.ntmps46]; exact Nat.le_add_left 1 _) ?_; rw [Tryd.ntmps46]
  refine qm ?_
  refine hk_region fun K hK => runs_eval tab_ok ?_
  simp only [ev0, evA, evB, evP, fl, gp, tab, simprocAttr, reduceCtorEq, reduceIte]
  refine fin_run trivial (hK _ ?_) <;> clear hK <;> clear K
  refine qa (qm ?_)
  refine hk_region fun K hK => runs_eval tab_ok ?_
  simp only [ev0, evA, evB, evP, fl, gp, tab, simprocAttr, reduceCtorEq, reduceIte]
  refine fin_run ?_ (hK _ ?_) <;> clear hK <;> clear K
  · (first | exact trivial | omega | (simp only [In64] at *; omega) | (simp [In64] at *; omega) | (simp_all; done) | skip)
  refine qa (qk ?_)
  simp only [Tryd.results46, PostG, endG, rvsA, rvA, mkTup, ev0, evA, evB, evP, fl, gp, tab, simprocAttr, reduceCtorEq, reduceIte]
  all_goals (exact ⟨[0], rfl, rfl, by simp only [leq, leA, ev0, evA, evB, evP, fl, gp, tab, simprocAttr, reduceCtorEq, reduceIte] <;> first | trivial | omega⟩)
set_option maxHeartbeats 8000000 in
set_option maxRecDepth 20000 in
theorem factorsOf_g (h : GT n m n e) (ls : List (List Int)) (hw : Fw n ls) (hr : ∀ w ∈ ls, w.length ≤ 17592186043904) : FnC Tryd.prog 18 [gp n m, .list (ll ls)] (.tup [.list (il (fsp n (op m n) e ls).1), fl (fsp n (op m n) e ls).2]) := by
  have G := h.2.2
  have hb := h.2.1.big
  have hml := h.2.1.len
  have hsq := sq_le hb
  have hlo := hw.lo
  have hhi := hw.hi
  have hll := ll_length ls
  have hl0 := ll_get (ls := ls) (i := 0) (by omega)
  have hlZ := ll_get (ls := ls) (i := ls.length - 1) (by omega)
  have hl1 : ((ls.length : Int) - 1) = ((ls.length - 1 : Nat) : Int) := by omega
  have hrow : ∀ i, i < ls.length → (ls.getD i []).length ≤ 17592186043904 := fun i hi => hr _ (by simp [List.getD, List.getElem?_eq_getElem hi])
  have hr0 := hrow 0 (by omega)
  have hrZ := hrow (ls.length - 1) (by omega)
  refine fnc_of tab_ok Tryd.func18 rfl (by kernel_rfl) (by rw [Tryd.ntmps18]; exact Nat.le_add_left 2 _) ?_; rw [Tryd.ntmps18]
  refine qm ?_
  refine hk_region fun K hK => runs_eval tab_ok ?_
  simp only [ev0, evA, evB, evP, fl, gp, tab, simprocAttr, reduceCtorEq, reduceIte]
  refine fin_run ?_ (hK _ ?_) <;> clear hK <;> clear K
  · (first | exact trivial | omega | (simp only [In64] at *; omega) | (simp [In64] at *; omega) | (simp_all; done) | skip)
  refine qa (qm ?_)
  refine hk_region fun K hK => runs_eval tab_ok ?_
  simp only [ev0, evA, evB, evP, fl, gp, tab, simprocAttr, reduceCtorEq, reduceIte]
  refine fin_stop trivial (runs_call (gf_c n m (by omega)) rfl rfl rfl (by simp only [dstOk, Nat.reduceLT]) (by repeat (first | exact trivial | constructor)) (runs_eval tab_ok ?_))
  simp only [ev0, evA, evB, evP, fl, gp, tab, simprocAttr, reduceCtorEq, reduceIte, gf_of h]
  refine fin_run ?_ (hK _ ?_) <;> clear hK <;> clear K
  · (first | exact trivial | omega | (simp only [In64] at *; omega) | (simp [In64] at *; omega) | (simp_all; done) | skip)
  refine qa (qm (qm ?_))
  refine hk_region fun K hK => runs_eval tab_ok ?_
  simp only [ev0, evA, evB, evP, fl, gp, tab, simprocAttr, reduceCtorEq, reduceIte]
  refine fin_run ?_ (hK _ ?_) <;> clear hK <;> clear K
  · (first | exact trivial | omega | (simp only [In64] at *; omega) | (simp [In64] at *; omega) | (simp_all; done) | skip)
  refine qa ?_
  refine hk_cond rfl (fun hC1 => ?_) (fun hC1 => ?_)
  · cases hC1
  · (try simp only [nhs] at hC1)
    refine qh (qa (qm (qm ?_)))
    refine hk_region fun K hK => runs_eval tab_ok ?_
    simp only [ev0, evA, evB, evP, fl, gp, tab, simprocAttr, reduceCtorEq, reduceIte, ll_length, decide_eq_false (show ¬ ((ls.length : Nat) : Int) < 1 by omega)]
    refine fin_run trivial (hK _ ?_) <;> clear hK <;> clear K
    refine qa ?_
    refine hk_cond rfl (fun hC2 => ?_) (fun hC2 => ?_)
    · (try simp only [nhs] at hC2)
      omega
    · (try simp only [nhs] at hC2)
      refine qh (qa (qm (qm ?_)))
      by_cases k6 : (ls.getD 0 []).length = n
      · refine hk_draw mixed (by kernel_rfl) fun K hK => runs_eval tab_ok ?_
        simp only [ev0, evA, evB, evP, fl, gp, tab, simprocAttr, reduceCtorEq, reduceIte, ll_length, hl0, il_length, hl1, hlZ, bne_self_eq_false, k6]
        refine fin_run ?_ (hK _ ?_) <;> clear hK <;> clear K
        · (first | exact trivial | omega | (simp only [In64] at *; omega) | (simp [In64] at *; omega) | (simp_all; done) | skip)
        refine qa ?_
        refine hk_cond rfl (fun hC3 => ?_) (fun hC3 => ?_)
        · (try simp only [nhs] at hC3)
          have hsz := fsp_size (f := op m n) (e := e) hw (.inr fun hh => hC3 (by omega))
          refine qm ?_
          refine hk_region fun K hK => runs_eval tab_ok ?_
          simp only [ev0, evA, evB, evP, fl, gp, tab, simprocAttr, reduceCtorEq, reduceIte]
          refine fin_stop trivial (runs_call (f_c 8 0) rfl rfl rfl (by simp only [dstOk, Nat.reduceLT]) (by repeat (first | exact trivial | constructor)) (runs_eval tab_ok ?_))
          simp only [ev0, evA, evB, evP, fl, gp, tab, simprocAttr, reduceCtorEq, reduceIte]
          refine fin_run ?_ (hK _ ?_) <;> clear hK <;> clear K
          · (first | exact trivial | omega | (simp only [In64] at *; omega) | (simp [In64] at *; omega) | (simp_all; done) | skip)
          refine qa (qk (qb ?_))
          simp only [Tryd.results18, enA, ev0, evA, evB, evP, fl, gp, tab, simprocAttr, reduceCtorEq, reduceIte]
          all_goals (rw [hsz]; exact ⟨rfl, rfl, rfl⟩)
        · (try simp only [nhs] at hC3)
          have hz : Fz n ls := ⟨hw, k6, by omega⟩
          refine qh (qa (qm (qm ?_)))
          refine hk_region fun K hK => runs_eval tab_ok ?_
          simp only [ev0, evA, evB, evP, fl, gp, tab, simprocAttr, reduceCtorEq, reduceIte]
          refine fin_run trivial (hK _ ?_) <;> clear hK <;> clear K
          refine qa (ql ?_)
          refine hk_loop (ι := Nat) (fun i => ⟨195, [(1, .p (.list (ll ls))), (2, .ptr 0 0), (5, .ptr 1 0), (6, .ptr 2 0), (7, .p (.int .i64 i))], [.own [.p (.int .i64 n), .p (.list (il m))], .own [.p (.int .i64 0), .p (.int .i64 0)], .own [.p (.int .i64 0), .p (.int .i64 0)]]⟩) (fun i => i ≤ ls.length ∧ ∀ j, j < i → okR n (op m n) e (ls.getD j []) = true) (fun i => ls.length - i) 0 ⟨Nat.zero_le _, fun j hj => by omega⟩ [0, 1, 2] (by simp only [leq, leA, ev0, evA, evB, evP, fl, gp, tab, simprocAttr, reduceCtorEq, reduceIte] <;> trivial) fun i hi => ?_
          obtain ⟨hi1, hi2⟩ := hi
          refine qm (qm ?_)
          refine hk_region fun K hK => runs_eval tab_ok ?_
          simp only [ev0, evA, evB, evP, fl, gp, tab, simprocAttr, reduceCtorEq, reduceIte, ll_length]
          refine fin_run trivial (hK _ ?_) <;> clear hK <;> clear K
          refine qa ?_
          refine hk_cond rfl (fun hC4 => ?_) (fun hC4 => ?_)
          · (try simp only [nhs] at hC4)
            have hil : i < ls.length := by omega
            have hli := ll_get (ls := ls) (i := i) hil
            have hri := hrow i hil
            refine qh (qa (qm (ql (qm ?_))))
            rcases rowD h (ls.getD i []) with hok | ⟨hok, z, hz0, hzs⟩ | ⟨hok, hlf⟩
            · obtain ⟨hrw, hsub⟩ := okR_row G hok
              have hcl := closed_c h (tst (ls.getD i [])) true ⟨fun _ => hsub, fun _ => rfl⟩
              have hlt := lf_thl n (tst (ls.getD i []))
              rw [← hrw] at hcl hlt
              refine hk_draw2 mixed fun K hK => runs2_eval tab_ok ?_
              simp only [evD, ev0, evA, evB, evP, fl, gp, tab, simprocAttr, reduceCtorEq, reduceIte, hli, ll_length, hlt, bne_self_eq_false]
              refine fin2_stop ?_ (runs2_call (listFault_c n m (ls.getD i []) (by omega)) rfl rfl rfl rfl (by simp only [dstOk, Nat.reduceLT]) (by repeat (first | exact trivial | constructor)) (runs2_eval tab_ok ?_))
              · (first | exact trivial | omega | (simp only [In64] at *; omega) | (simp [In64] at *; omega) | (simp_all; done) | skip)
              simp only [evD, ev0, evA, evB, evP, fl, gp, tab, simprocAttr, reduceCtorEq, reduceIte, hli, ll_length, hlt, bne_self_eq_false]
              refine fin2_stop ?_ (runs2_call (hcl) rfl rfl rfl rfl (by simp only [dstOk, Nat.reduceLT]) (by repeat (first | exact trivial | constructor)) (runs2_eval tab_ok ?_))
              · (first | exact trivial | omega | (simp only [In64] at *; omega) | (simp [In64] at *; omega) | (simp_all; done) | skip)
              simp only [evD, ev0, evA, evB, evP, fl, gp, tab, simprocAttr, reduceCtorEq, reduceIte, hli, ll_length, hlt, bne_self_eq_false]
              refine fin2_run ?_ (hK _ _ (by first | kernel_rfl | rfl) ?_) <;> clear hK <;> clear K
              · (first | exact trivial | omega | (simp only [In64] at *; omega) | (simp [In64] at *; omega) | (simp_all; done) | skip)
              refine qa ?_
              refine hk_cond rfl (fun hC5 => ?_) (fun hC5 => ?_)
              · cases hC5
              · (try simp only [nhs] at hC5)
                refine qh (qd (qa ?_))
                refine hk_region fun K hK => runs_eval tab_ok ?_
                simp only [ev0, evA, evB, evP, fl, gp, tab, simprocAttr, reduceCtorEq, reduceIte]
                refine fin_run ?_ (hK _ ?_) <;> clear hK <;> clear K
                · (first | exact trivial | omega | (simp only [In64] at *; omega) | (simp [In64] at *; omega) | (simp_all; done) | skip)
                refine qa ?_
                refine ⟨i + 1, [0, 1, 2], ⟨by omega, fun j hj => ?_⟩, by omega, ?_⟩
                · by_cases hji : j = i
                  · rw [hji]; exact hok
                  · exact hi2 j (by omega)
                · simp only [leq, leA, ev0, evA, evB, evP, fl, gp, tab, simprocAttr, reduceCtorEq, reduceIte] <;> first | trivial | omega
            · have hcl := closed_c h z false (by simp [hzs])
              have hlt := lf_thl n z
              rw [← hz0] at hcl hlt
              refine hk_draw2 mixed fun K hK => runs2_eval tab_ok ?_
              simp only [evD, ev0, evA, evB, evP, fl, gp, tab, simprocAttr, reduceCtorEq, reduceIte, hli, ll_length, hlt, bne_self_eq_false]
              refine fin2_stop ?_ (runs2_call (listFault_c n m (ls.getD i []) (by omega)) rfl rfl rfl rfl (by simp only [dstOk, Nat.reduceLT]) (by repeat (first | exact trivial | constructor)) (runs2_eval tab_ok ?_))
              · (first | exact trivial | omega | (simp only [In64] at *; omega) | (simp [In64] at *; omega) | (simp_all; done) | skip)
              simp only [evD, ev0, evA, evB, evP, fl, gp, tab, simprocAttr, reduceCtorEq, reduceIte, hli, ll_length, hlt, bne_self_eq_false]
              refine fin2_stop ?_ (runs2_call (hcl) rfl rfl rfl rfl (by simp only [dstOk, Nat.reduceLT]) (by repeat (first | exact trivial | constructor)) (runs2_eval tab_ok ?_))
              · (first | exact trivial | omega | (simp only [In64] at *; omega) | (simp [In64] at *; omega) | (simp_all; done) | skip)
              simp only [evD, ev0, evA, evB, evP, fl, gp, tab, simprocAttr, reduceCtorEq, reduceIte, hli, ll_length, hlt, bne_self_eq_false]
              refine fin2_run ?_ (hK _ _ (by first | kernel_rfl | rfl) ?_) <;> clear hK <;> clear K
              · (first | exact trivial | omega | (simp only [In64] at *; omega) | (simp [In64] at *; omega) | (simp_all; done) | skip)
              refine qa ?_
              refine hk_cond rfl (fun hC5 => ?_) (fun hC5 => ?_)
              · (try simp only [nhs] at hC5)
                refine qm ?_
                refine hk_region fun K hK => runs_eval tab_ok ?_
                simp only [ev0, evA, evB, evP, fl, gp, tab, simprocAttr, reduceCtorEq, reduceIte]
                refine fin_stop trivial (runs_call (f_c 5 i) rfl rfl rfl (by simp only [dstOk, Nat.reduceLT]) (by repeat (first | exact trivial | constructor)) (runs_eval tab_ok ?_))
                simp only [ev0, evA, evB, evP, fl, gp, tab, simprocAttr, reduceCtorEq, reduceIte]
                refine fin_run ?_ (hK _ ?_) <;> clear hK <;> clear K
                · (first | exact trivial | omega | (simp only [In64] at *; omega) | (simp [In64] at *; omega) | (simp_all; done) | skip)
                refine qa (qk (qe (qb (qb (qe (qb ?_))))))
                simp only [Tryd.results18, enA, ev0, evA, evB, evP, fl, gp, tab, simprocAttr, reduceCtorEq, reduceIte]
                all_goals (rw [fsp_form hz hil hok hi2]; exact ⟨rfl, rfl, rfl⟩)
              · cases hC5
            · refine hk_draw2 mixed fun K hK => runs2_eval tab_ok ?_
              simp only [evD, ev0, evA, evB, evP, fl, gp, tab, simprocAttr, reduceCtorEq, reduceIte, hli, ll_length, decide_eq_false hlf]
              refine fin2_stop ?_ (runs2_call (listFault_c n m (ls.getD i []) (by omega)) rfl rfl rfl rfl (by simp only [dstOk, Nat.reduceLT]) (by repeat (first | exact trivial | constructor)) (runs2_eval tab_ok ?_))
              · (first | exact trivial | omega | (simp only [In64] at *; omega) | (simp [In64] at *; omega) | (simp_all; done) | skip)
              simp only [evD, ev0, evA, evB, evP, fl, gp, tab, simprocAttr, reduceCtorEq, reduceIte, hli, ll_length, decide_eq_false hlf]
              refine fin2_run ?_ (hK _ _ (by first | kernel_rfl | rfl) ?_) <;> clear hK <;> clear K
              · (first | exact trivial | omega | (simp only [In64] at *; omega) | (simp [In64] at *; omega) | (simp_all; done) | skip)
              refine qa ?_
              refine hk_cond rfl (fun hC5 => ?_) (fun hC5 => ?_)
              · refine qm ?_
                refine hk_region fun K hK => runs_eval tab_ok ?_
                simp only [ev0, evA, evB, evP, fl, gp, tab, simprocAttr, reduceCtorEq, reduceIte]
                refine fin_stop trivial (runs_call (f_c 5 i) rfl rfl rfl (by simp only [dstOk, Nat.reduceLT]) (by repeat (first | exact trivial | constructor)) (runs_eval tab_ok ?_))
                simp only [ev0, evA, evB, evP, fl, gp, tab, simprocAttr, reduceCtorEq, reduceIte]
                refine fin_run ?_ (hK _ ?_) <;> clear hK <;> clear K
                · (first | exact trivial | omega | (simp only [In64] at *; omega) | (simp [In64] at *; omega) | (simp_all; done) | skip)
                refine qa (qk (qe (qb (qb (qe (qb ?_))))))
                simp only [Tryd.results18, enA, ev0, evA, evB, evP, fl, gp, tab, simprocAttr, reduceCtorEq, reduceIte]
                all_goals (rw [fsp_form hz hil hok hi2]; exact ⟨rfl, rfl, rfl⟩)
              · cases hC5
          · (try simp only [nhs] at hC4)
            have hin : i = ls.length := by omega
            have ho : Fo n (op m n) e ls := ⟨hz, fun j hj => hi2 j (by omega)⟩
            refine qj (qc (qc (qf (qa (qm ?_)))))
            refine hk_region fun K hK => runs_eval tab_ok ?_
            simp only [ev0, evA, evB, evP, fl, gp, tab, simprocAttr, reduceCtorEq, reduceIte]
            refine fin_run trivial (hK _ ?_) <;> clear hK <;> clear K
            refine qa (qm (qm ?_))
            refine hk_own0 8 rfl ?_
            refine hk_region fun K hK => runs_eval tab_ok ?_
            simp only [ev0, evA, evB, evP, fl, gp, tab, simprocAttr, reduceCtorEq, reduceIte]
            refine fin_run trivial (hK _ ?_) <;> clear hK <;> clear K
            refine qa (ql ?_)
            refine hk_loop (ι := Nat) (fun k => ⟨195, [(1, .p (.list (ll ls))), (2, .ptr 0 0), (5, .ptr 1 0), (6, .ptr 2 0), (8, .sl 3 0 (inz ls k).length), (9, .p (.int .i64 ((k + 1 : Nat) : Int)))], [.own [.p (.int .i64 n), .p (.list (il m))], .own [.p (.int .i64 0), .p (.int .i64 0)], .own [.p (.int .i64 0), .p (.int .i64 0)], .own (ol (inz ls k))]⟩) (fun k => k ≤ ls.length - 1 ∧ ∀ j, j < k → Mxn n (op m n) e (tsl ls j) (tsl ls (j + 1))) (fun k => ls.length - k) 0 ⟨Nat.zero_le _, fun j hj => by omega⟩ [0, 1, 2, 3] (by simp only [leq, leA, ev0, evA, evB, evP, fl, gp, tab, simprocAttr, reduceCtorEq, reduceIte] <;> first | trivial | simp [inz, ol_nil]) fun k hk => ?_
            obtain ⟨hk1, hk2⟩ := hk
            have hfl := inz_len ls k
            refine qm (qm ?_)
            refine hk_region fun K hK => runs_eval tab_ok ?_
            simp only [ev0, evA, evB, evP, fl, gp, tab, simprocAttr, reduceCtorEq, reduceIte, ll_length]
            refine fin_run trivial (hK _ ?_) <;> clear hK <;> clear K
            refine qa ?_
            refine hk_cond rfl (fun hC6 => ?_) (fun hC6 => ?_)
            · (try simp only [nhs] at hC6)
              have hkl : k < ls.length - 1 := by omega
              obtain ⟨hpk, hp⟩ := okR_row G (ho.ok k (by omega))
              obtain ⟨hqk, hq⟩ := okR_row G (ho.ok (k + 1) (by omega))
              have hup := ll_get (ls := ls) (i := k) (by omega)
              have hdn := ll_get (ls := ls) (i := k + 1) (by omega)
              have hkm : ((k + 1 : Nat) : Int) - 1 = (k : Int) := by omega
              have hfs : inz ls (k + 1) = ins (((ls.getD k []).length / (ls.getD (k + 1) []).length : Nat) : Int) (inz ls k) := rfl
              have hts : tsl ls k = tst (ls.getD k []) := rfl
              have htq : tsl ls (k + 1) = tst (ls.getD (k + 1) []) := rfl
              rw [← hts] at hpk hp
              rw [← htq] at hqk hq
              clear hts htq
              rw [hpk] at hup
              rw [hqk] at hdn
              rw [hpk, hqk] at hfs
              have hst := fsp_step ho hkl (f := op m n)
              generalize hpd : tsl ls k = p at *
              generalize hqd : tsl ls (k + 1) = q at *
              have l1 := thl_le n p
              have l2 := thl_le n q
              have e1 : (thl n p).length = (mem n p).length := thl_len _ _
              have e2 : (thl n q).length = (mem n q).length := thl_len _ _
              have hqpos := hq.pos G.el
              obtain ⟨bi, hbi⟩ := truth (Inn n p q)
              refine qh (qa (qm (ql (qm ?_))))
              refine hk_draw mixed (by kernel_rfl) fun K hK => runs_eval tab_ok ?_
              simp only [ev0, evA, evB, evP, fl, gp, tab, simprocAttr, reduceCtorEq, reduceIte, hkm, hup, hdn, ll_length]
              refine fin_run ?_ (hK _ ?_) <;> clear hK <;> clear K
              · (first | exact trivial | omega | (simp only [In64] at *; omega) | (simp [In64] at *; omega) | (simp_all; done) | skip)
              refine qa (qm (qm ?_))
              refine hk_region fun K hK => runs_eval tab_ok ?_
              simp only [ev0, evA, evB, evP, fl, gp, tab, simprocAttr, reduceCtorEq, reduceIte]
              refine fin_stop trivial (runs_call (parted_r n q p hb bi hbi) rfl rfl rfl (by simp only [dstOk, Nat.reduceLT]) (by repeat (first | exact trivial | constructor)) (runs_eval tab_ok ?_))
              simp only [ev0, evA, evB, evP, fl, gp, tab, simprocAttr, reduceCtorEq, reduceIte]
              refine fin_run trivial (hK _ ?_) <;> clear hK <;> clear K
              refine qa ?_
              refine hk_cond rfl (fun hC7 => ?_) (fun hC7 => ?_)
              · (try simp only [nhs] at hC7)
                have hninn : ¬ Inn n p q := fun hh => by rw [hbi.2 hh] at hC7; cases hC7
                refine qm ?_
                refine hk_region fun K hK => runs_eval tab_ok ?_
                simp only [ev0, evA, evB, evP, fl, gp, tab, simprocAttr, reduceCtorEq, reduceIte]
                refine fin_stop trivial (runs_call (f_c 7 ((k + 1 : Nat) : Int)) rfl rfl rfl (by simp only [dstOk, Nat.reduceLT]) (by repeat (first | exact trivial | constructor)) (runs_eval tab_ok ?_))
                simp only [ev0, evA, evB, evP, fl, gp, tab, simprocAttr, reduceCtorEq, reduceIte]
                refine fin_run ?_ (hK _ ?_) <;> clear hK <;> clear K
                · (first | exact trivial | omega | (simp only [In64] at *; omega) | (simp [In64] at *; omega) | (simp_all; done) | skip)
                refine qa (qk (qb (qe (qb (qb (qe (qb ?_)))))))
                simp only [Tryd.results18, enA, ev0, evA, evB, evP, fl, gp, tab, simprocAttr, reduceCtorEq, reduceIte]
                all_goals (rw [hst (fun hh => hninn fun x hx qx => hh.le x hx qx) hk2, stF_7 hninn]; exact ⟨rfl, rfl, rfl⟩)
              · (try simp only [nhs] at hC7)
                have hinn : Inn n p q := hbi.1 (by cases bi with | true => rfl | false => cases hC7)
                refine qh (qa (qm (qm ?_)))
                refine hk_region fun K hK => runs_eval tab_ok ?_
                simp only [ev0, evA, evB, evP, fl, gp, tab, simprocAttr, reduceCtorEq, reduceIte]
                refine fin_run trivial (hK _ ?_) <;> clear hK <;> clear K
                refine qa (ql ?_)
                refine hk_loop (ι := Nat) (fun i => ⟨195, [(1, .p (.list (ll ls))), (2, .ptr 0 0), (5, .ptr 1 0), (6, .ptr 2 0), (8, .sl 3 0 (inz ls k).length), (9, .p (.int .i64 ((k + 1 : Nat) : Int))), (10, .p (.list (il (thl n p)))), (11, .p (.list (il (thl n q)))), (12, .p (.int .i64 i))], [.own [.p (.int .i64 n), .p (.list (il m))], .own [.p (.int .i64 0), .p (.int .i64 0)], .own [.p (.int .i64 0), .p (.int .i64 0)], .own (ol (inz ls k))]⟩) (fun i => i ≤ (thl n p).length ∧ ∀ a, a < n → pix p a < i → p a = true → thl n (shf n (op m n) e q a) = thl n q) (fun i => (thl n p).length - i) 0 ⟨Nat.zero_le _, fun a _ hj => by omega⟩ [0, 1, 2, 3] (by simp only [leq, leA, ev0, evA, evB, evP, fl, gp, tab, simprocAttr, reduceCtorEq, reduceIte] <;> first | trivial | omega) fun i3 hi => ?_
                obtain ⟨hi3, hi4⟩ := hi
                refine qm (qm ?_)
                refine hk_region fun K hK => runs_eval tab_ok ?_
                simp only [ev0, evA, evB, evP, fl, gp, tab, simprocAttr, reduceCtorEq, reduceIte, il_length]
                refine fin_run trivial (hK _ ?_) <;> clear hK <;> clear K
                refine qa ?_
                refine hk_cond rfl (fun hC8 => ?_) (fun hC8 => ?_)
                · (try simp only [nhs] at hC8)
                  have hlt : i3 < (thl n p).length := by omega
                  obtain ⟨x, x1, x2, x3⟩ := thl_get hlt
                  have hxp := pix_get hlt x1 x2 x3
                  refine qh (qa (qm (ql (qm ?_))))
                  refine hk_draw mixed (by kernel_rfl) fun K hK => runs_eval tab_ok ?_
                  simp only [ev0, evA, evB, evP, fl, gp, tab, simprocAttr, reduceCtorEq, reduceIte, il_get hlt, x3]
                  refine fin_stop ?_ (runs_call (shifted_r h q x1) rfl rfl rfl (by simp only [dstOk, Nat.reduceLT]) (by repeat (first | exact trivial | constructor)) (runs_eval tab_ok ?_))
                  · (first | exact trivial | omega | (simp only [In64] at *; omega) | (simp [In64] at *; omega) | (simp_all; done) | skip)
                  simp only [ev0, evA, evB, evP, fl, gp, tab, simprocAttr, reduceCtorEq, reduceIte, il_get hlt, x3]
                  refine fin_stop trivial (runs_call (ints_c (thl n (shf n (op m n) e q x)) (thl n q) (by have := thl_le n (shf n (op m n) e q x); omega)) rfl rfl rfl (by simp only [dstOk, Nat.reduceLT]) (by repeat (first | exact trivial | constructor)) (runs_eval tab_ok ?_))
                  simp only [ev0, evA, evB, evP, fl, gp, tab, simprocAttr, reduceCtorEq, reduceIte, il_get hlt, x3]
                  refine fin_run ?_ (hK _ ?_) <;> clear hK <;> clear K
                  · (first | exact trivial | omega | (simp only [In64] at *; omega) | (simp [In64] at *; omega) | (simp_all; done) | skip)
                  refine qa ?_
                  refine hk_cond rfl (fun hC9 => ?_) (fun hC9 => ?_)
                  · (try simp only [nhs] at hC9)
                    have hN : ¬ Nin n (op m n) e p q := fun hN => by
                      have := nin_shf G hp hN x1 x2
                      simp [this] at hC9
                    refine qm ?_
                    refine hk_region fun K hK => runs_eval tab_ok ?_
                    simp only [ev0, evA, evB, evP, fl, gp, tab, simprocAttr, reduceCtorEq, reduceIte]
                    refine fin_stop trivial (runs_call (f_c 4 ((k + 1 : Nat) : Int)) rfl rfl rfl (by simp only [dstOk, Nat.reduceLT]) (by repeat (first | exact trivial | constructor)) (runs_eval tab_ok ?_))
                    simp only [ev0, evA, evB, evP, fl, gp, tab, simprocAttr, reduceCtorEq, reduceIte]
                    refine fin_run ?_ (hK _ ?_) <;> clear hK <;> clear K
                    · (first | exact trivial | omega | (simp only [In64] at *; omega) | (simp [In64] at *; omega) | (simp_all; done) | skip)
                    refine qa (qk (qe (qb (qb (qe (qb (qe (qb (qb (qe (qb ?_)))))))))))
                    simp only [Tryd.results18, enA, ev0, evA, evB, evP, fl, gp, tab, simprocAttr, reduceCtorEq, reduceIte]
                    all_goals (rw [hst (fun hh => hN fun a x ha hx pa qx => hh.nml a x ha hx pa qx) hk2, stF_4 hinn hN]; exact ⟨rfl, rfl, rfl⟩)
                  · (try simp only [nhs] at hC9)
                    have hsh : thl n (shf n (op m n) e q x) = thl n q := by simpa using hC9
                    refine qh (qd (qa ?_))
                    refine hk_region fun K hK => runs_eval tab_ok ?_
                    simp only [ev0, evA, evB, evP, fl, gp, tab, simprocAttr, reduceCtorEq, reduceIte]
                    refine fin_run ?_ (hK _ ?_) <;> clear hK <;> clear K
                    · (first | exact trivial | omega | (simp only [In64] at *; omega) | (simp [In64] at *; omega) | (simp_all; done) | skip)
                    refine qa ?_
                    refine ⟨i3 + 1, [0, 1, 2, 3], ⟨by omega, fun a ha hai pa => ?_⟩, by omega, ?_⟩
                    · by_cases hax : pix p a = i3
                      · have h5 := (pix_at ha pa).2
                        rw [hax, x3] at h5
                        have : a = x := by omega
                        rw [this]; exact hsh
                      · exact hi4 a ha (by omega) pa
                    · simp only [leq, leA, ev0, evA, evB, evP, fl, gp, tab, simprocAttr, reduceCtorEq, reduceIte] <;> first | trivial | omega
                · (try simp only [nhs] at hC8)
                  have hN : Nin n (op m n) e p q := shf_nin G fun a ha pa => hi4 a ha (by have := (pix_at ha pa).1; omega) pa
                  refine qj (qc (qc (qf (qa (qm (qm ?_))))))
                  refine hk_region fun K hK => runs_eval tab_ok ?_
                  simp only [ev0, evA, evB, evP, fl, gp, tab, simprocAttr, reduceCtorEq, reduceIte, il_length]
                  refine fin_run trivial (hK _ ?_) <;> clear hK <;> clear K
                  refine qa ?_
                  refine hk_cond rfl (fun hC10 => ?_) (fun hC10 => ?_)
                  · (try simp only [nhs] at hC10)
                    have hnm : ¬ Mxn n (op m n) e p q := fun hh => by have := hh.lt; omega
                    refine qm ?_
                    refine hk_region fun K hK => runs_eval tab_ok ?_
                    simp only [ev0, evA, evB, evP, fl, gp, tab, simprocAttr, reduceCtorEq, reduceIte]
                    refine fin_stop trivial (runs_call (f_c 6 ((k + 1 : Nat) : Int)) rfl rfl rfl (by simp only [dstOk, Nat.reduceLT]) (by repeat (first | exact trivial | constructor)) (runs_eval tab_ok ?_))
                    simp only [ev0, evA, evB, evP, fl, gp, tab, simprocAttr, reduceCtorEq, reduceIte]
                    refine fin_run ?_ (hK _ ?_) <;> clear hK <;> clear K
                    · (first | exact trivial | omega | (simp only [In64] at *; omega) | (simp [In64] at *; omega) | (simp_all; done) | skip)
                    refine qa (qk (qb (qe (qb (qb (qe (qb ?_)))))))
                    simp only [Tryd.results18, enA, ev0, evA, evB, evP, fl, gp, tab, simprocAttr, reduceCtorEq, reduceIte]
                    all_goals (rw [hst hnm hk2, stF_6 hinn hN]; exact ⟨rfl, rfl, rfl⟩)
                  · (try simp only [nhs] at hC10)
                    have hne : ¬ (thl n p).length = (thl n q).length := fun hh => hC10 (by omega)
                    refine qh (qa (qm (qm ?_)))
                    refine hk_region fun K hK => runs_eval tab_ok ?_
                    simp only [ev0, evA, evB, evP, fl, gp, tab, simprocAttr, reduceCtorEq, reduceIte]
                    refine fin_run trivial (hK _ ?_) <;> clear hK <;> clear K
                    refine qa (ql ?_)
                    refine hk_loop (ι := Nat) (fun i => ⟨195, [(1, .p (.list (ll ls))), (2, .ptr 0 0), (5, .ptr 1 0), (6, .ptr 2 0), (8, .sl 3 0 (inz ls k).length), (9, .p (.int .i64 ((k + 1 : Nat) : Int))), (10, .p (.list (il (thl n p)))), (11, .p (.list (il (thl n q)))), (13, .p (.int .i64 i))], [.own [.p (.int .i64 n), .p (.list (il m))], .own [.p (.int .i64 0), .p (.int .i64 0)], .own [.p (.int .i64 0), .p (.int .i64 0)], .own (ol (inz ls k))]⟩) (fun i => i ≤ (thl n p).length ∧ ∀ a, a < n → pix p a < i → p a = true → q a = false → (thl n (gn n (op m n) e (cjg n (op m n) e p q a))).length = (thl n p).length) (fun i => (thl n p).length - i) 0 ⟨Nat.zero_le _, fun a _ hj => by omega⟩ [0, 1, 2, 3] (by simp only [leq, leA, ev0, evA, evB, evP, fl, gp, tab, simprocAttr, reduceCtorEq, reduceIte] <;> first | trivial | omega) fun i5 hi => ?_
                    obtain ⟨hi5, hi6⟩ := hi
                    refine qm (qm ?_)
                    refine hk_region fun K hK => runs_eval tab_ok ?_
                    simp only [ev0, evA, evB, evP, fl, gp, tab, simprocAttr, reduceCtorEq, reduceIte, il_length]
                    refine fin_run trivial (hK _ ?_) <;> clear hK <;> clear K
                    refine qa ?_
                    refine hk_cond rfl (fun hC11 => ?_) (fun hC11 => ?_)
                    · (try simp only [nhs] at hC11)
                      have hlt : i5 < (thl n p).length := by omega
                      obtain ⟨x, x1, x2, x3⟩ := thl_get hlt
                      have hxp := pix_get hlt x1 x2 x3
                      have hmem : decide ((x : Int) ∈ thl n q) = q x := by
                        rw [Bool.eq_iff_iff, decide_eq_true_eq, mem_thl_n x1]
                      refine qh (qa (qm (ql (qm (qm ?_)))))
                      refine hk_region fun K hK => runs_eval tab_ok ?_
                      simp only [ev0, evA, evB, evP, fl, gp, tab, simprocAttr, reduceCtorEq, reduceIte, il_get hlt, x3]
                      refine fin_stop ?_ (runs_call (has_r (thl n q) (x : Int) (by omega)) rfl rfl rfl (by simp only [dstOk, Nat.reduceLT]) (by repeat (first | exact trivial | constructor)) (runs_eval tab_ok ?_))
                      · (first | exact trivial | omega | (simp only [In64] at *; omega) | (simp [In64] at *; omega) | (simp_all; done) | skip)
                      simp only [ev0, evA, evB, evP, fl, gp, tab, simprocAttr, reduceCtorEq, reduceIte, hmem, il_get hlt, x3]
                      refine fin_run ?_ (hK _ ?_) <;> clear hK <;> clear K
                      · (first | exact trivial | omega | (simp only [In64] at *; omega) | (simp [In64] at *; omega) | (simp_all; done) | skip)
                      refine qa ?_
                      refine hk_cond rfl (fun hC12 => ?_) (fun hC12 => ?_)
                      · (try simp only [nhs] at hC12)
                        refine qj (qc (qf (qa ?_)))
                        refine hk_region fun K hK => runs_eval tab_ok ?_
                        simp only [ev0, evA, evB, evP, fl, gp, tab, simprocAttr, reduceCtorEq, reduceIte]
                        refine fin_run ?_ (hK _ ?_) <;> clear hK <;> clear K
                        · (first | exact trivial | omega | (simp only [In64] at *; omega) | (simp [In64] at *; omega) | (simp_all; done) | skip)
                        refine qa ?_
                        refine ⟨i5 + 1, [0, 1, 2, 3], ⟨by omega, fun a ha hai pa qa => ?_⟩, by omega, ?_⟩
                        · by_cases hax : pix p a = i5
                          · have h5 := (pix_at ha pa).2
                            rw [hax, x3] at h5
                            have : a = x := by omega
                            rw [this, hC12] at qa; cases qa
                          · exact hi6 a ha (by omega) pa qa
                        · simp only [leq, leA, ev0, evA, evB, evP, fl, gp, tab, simprocAttr, reduceCtorEq, reduceIte] <;> first | trivial | omega
                      · (try simp only [nhs] at hC12)
                        refine qh (qa (qm ?_))
                        refine hk_region fun K hK => runs_eval tab_ok ?_
                        simp only [ev0, evA, evB, evP, fl, gp, tab, simprocAttr, reduceCtorEq, reduceIte]
                        refine fin_stop trivial (runs_callG (sownF_c (thl n q) (by omega)) rfl rfl (by first | rfl | (simp [scG, scA, sc1, opl]; done) | (simp only [scG, List.all_cons, List.all_nil, ol_sc, Bool.and_true]; rfl)) (by simp only [dstOk, Nat.reduceLT]) (by repeat (first | exact trivial | constructor)) (runs_eval tab_ok ?_))
                        simp only [shf, List.range', Blk.ren, opl_ren, ren, ren1, ev0, evA, evB, evP, fl, gp, tab, simprocAttr, reduceCtorEq, reduceIte, eol_opl]
                        refine fin_run trivial (hK _ ?_) <;> clear hK <;> clear K
                        refine qa (qm (qm ?_))
                        refine hk_region fun K hK => runs_eval tab_ok ?_
                        simp only [ev0, evA, evB, evP, fl, gp, tab, simprocAttr, reduceCtorEq, reduceIte]
                        refine fin_run trivial (hK _ ?_) <;> clear hK <;> clear K
                        refine qa (ql ?_)
                        refine hk_loop (ι := Nat) (fun j => ⟨195, [(1, .p (.list (ll ls))), (2, .ptr 0 0), (5, .ptr 1 0), (6, .ptr 2 0), (8, .sl 3 0 (inz ls k).length), (9, .p (.int .i64 ((k + 1 : Nat) : Int))), (10, .p (.list (il (thl n p)))), (11, .p (.list (il (thl n q)))), (13, .p (.int .i64 i5)), (14, .sl 4 0 (thl n q ++ cjs n (op m n) e x ((thl n p).take j)).length), (15, .p (.int .i64 j))], [.own [.p (.int .i64 n), .p (.list (il m))], .own [.p (.int .i64 0), .p (.int .i64 0)], .own [.p (.int .i64 0), .p (.int .i64 0)], .own (ol (inz ls k)), .own (ol (thl n q ++ cjs n (op m n) e x ((thl n p).take j)))]⟩) (fun j => j ≤ (thl n p).length) (fun j => (thl n p).length - j) 0 (Nat.zero_le _) [0, 1, 2, 3, 4] (by simp only [leq, leA, ev0, evA, evB, evP, fl, gp, tab, simprocAttr, reduceCtorEq, reduceIte, ll_takeL] <;> first | trivial | omega | simp [cjs, Go.Pv.shf]) fun j hj => ?_
                        have hcl := cjs_len n (op m n) e x ((thl n p).take j)
                        rw [List.length_take] at hcl
                        have hal : (thl n q ++ cjs n (op m n) e x ((thl n p).take j)).length ≤ 120 := by rw [List.length_append]; omega
                        refine qm (qm ?_)
                        refine hk_region fun K hK => runs_eval tab_ok ?_
                        simp only [ev0, evA, evB, evP, fl, gp, tab, simprocAttr, reduceCtorEq, reduceIte, il_length]
                        refine fin_run trivial (hK _ ?_) <;> clear hK <;> clear K
                        refine qa ?_
                        refine hk_cond rfl (fun hC13 => ?_) (fun hC13 => ?_)
                        · (try simp only [nhs] at hC13)
                          have hjl : j < (thl n p).length := by omega
                          obtain ⟨y, y1, y2, y3⟩ := thl_get hjl
                          refine qh (qa (qm (ql ?_)))
                          refine hk_draw2 mixed fun K hK => runs2_eval tab_ok ?_
                          simp only [evD, ev0, evA, evB, evP, fl, gp, tab, simprocAttr, reduceCtorEq, reduceIte, il_get hlt, x3, il_get hjl, y3]
                          refine fin2_stop ?_ (runs2_call (c_r h x1 y1) rfl rfl rfl rfl (by simp only [dstOk, Nat.reduceLT]) (by repeat (first | exact trivial | constructor)) (runs2_eval tab_ok ?_))
                          · (first | exact trivial | omega | (simp only [In64] at *; omega) | (simp [In64] at *; omega) | (simp_all; done) | skip)
                          simp only [evD, ev0, evA, evB, evP, fl, gp, tab, simprocAttr, reduceCtorEq, reduceIte, il_get hlt, x3, il_get hjl, y3]
                          refine fin2_run ?_ (hK _ _ (by first | kernel_rfl | rfl) ?_) <;> clear hK <;> clear K
                          · (first | exact trivial | omega | (simp only [In64] at *; omega) | (simp [In64] at *; omega) | (simp_all; done) | skip)
                          refine qd (qa ?_)
                          refine hk_region fun K hK => runs_eval tab_ok ?_
                          simp only [ev0, evA, evB, evP, fl, gp, tab, simprocAttr, reduceCtorEq, reduceIte]
                          refine fin_run ?_ (hK _ ?_) <;> clear hK <;> clear K
                          · (first | exact trivial | omega | (simp only [In64] at *; omega) | (simp [In64] at *; omega) | (simp_all; done) | skip)
                          refine qa ?_
                          refine ⟨j + 1, [0, 1, 2, 3, 5], by omega, by omega, ?_⟩
                          rw [cjs_succ n (op m n) e x hjl, y3, ← List.append_assoc]
                          simp only [leq, leA, ev0, evA, evB, evP, fl, gp, tab, simprocAttr, reduceCtorEq, reduceIte, ll_takeL] <;> first | trivial | omega | (simp only [List.length_append, List.length_cons, List.length_nil]; omega) | exact congrArg ol (List.take_of_length_le (by simp only [List.length_append, List.length_cons, List.length_nil]; omega)).symm
                        · (try simp only [nhs] at hC13)
                          have hjn : j = (thl n p).length := by omega
                          rw [hjn, List.take_length]
                          rw [hjn, List.take_length] at hal
                          have hqx : q x = false := by simpa using hC12
                          have hlg := thl_le n (gn n (op m n) e (cjg n (op m n) e p q x))
                          refine qj (qc (qc (qf (qa (qm ?_)))))
                          refine hk_seal 14 4 rfl rfl ?_
                          refine hk_region fun K hK => runs_eval tab_ok ?_
                          simp only [ev0, evA, evB, evP, fl, gp, tab, simprocAttr, reduceCtorEq, reduceIte]
                          refine fin_stop trivial (runs_call (span_c h (thl n q ++ cjs n (op m n) e x (thl n p)) (by omega) (fun z hz => by
                            rcases List.mem_append.1 hz with hz | hz
                            · obtain ⟨a, a1, _, a3⟩ := mem_thl.1 hz; exact ⟨a, a1, a3⟩
                            · obtain ⟨w, hw, rfl⟩ := List.mem_map.1 hz
                              obtain ⟨b, b1, _, rfl⟩ := mem_thl.1 hw
                              exact ⟨_, G.cjr_lt x1 (by simpa using b1), rfl⟩) (gn n (op m n) e (cjg n (op m n) e p q x)) (gn_iff (cjg n (op m n) e p q x))) rfl rfl rfl (by simp only [dstOk, Nat.reduceLT]) (by repeat (first | exact trivial | constructor)) (runs_eval tab_ok ?_))
                          simp only [ev0, evA, evB, evP, fl, gp, tab, simprocAttr, reduceCtorEq, reduceIte, il_length]
                          refine fin_run ?_ (hK _ ?_) <;> clear hK <;> clear K
                          · (first | exact trivial | omega | (simp only [In64] at *; omega) | (simp [In64] at *; omega) | (simp_all; done) | skip)
                          refine qa ?_
                          refine hk_cond rfl (fun hC14 => ?_) (fun hC14 => ?_)
                          · (try simp only [nhs] at hC14)
                            have hnm : ¬ Mxn n (op m n) e p q := fun hh => hC14 (by have := cjg_mxn G hp hh x1 x2 hqx; omega)
                            refine qm ?_
                            refine hk_region fun K hK => runs_eval tab_ok ?_
                            simp only [ev0, evA, evB, evP, fl, gp, tab, simprocAttr, reduceCtorEq, reduceIte]
                            refine fin_stop trivial (runs_call (f_c 6 ((k + 1 : Nat) : Int)) rfl rfl rfl (by simp only [dstOk, Nat.reduceLT]) (by repeat (first | exact trivial | constructor)) (runs_eval tab_ok ?_))
                            simp only [ev0, evA, evB, evP, fl, gp, tab, simprocAttr, reduceCtorEq, reduceIte]
                            refine fin_run ?_ (hK _ ?_) <;> clear hK <;> clear K
                            · (first | exact trivial | omega | (simp only [In64] at *; omega) | (simp [In64] at *; omega) | (simp_all; done) | skip)
                            refine qa (qk (qe (qb (qb (qe (qb (qe (qb (qb (qe (qb ?_)))))))))))
                            simp only [Tryd.results18, enA, ev0, evA, evB, evP, fl, gp, tab, simprocAttr, reduceCtorEq, reduceIte]
                            all_goals (rw [hst hnm hk2, stF_6 hinn hN]; exact ⟨rfl, rfl, rfl⟩)
                          · (try simp only [nhs] at hC14)
                            have hgl : (thl n (gn n (op m n) e (cjg n (op m n) e p q x))).length = (thl n p).length := by omega
                            refine qh (qd (qa ?_))
                            refine hk_region fun K hK => runs_eval tab_ok ?_
                            simp only [ev0, evA, evB, evP, fl, gp, tab, simprocAttr, reduceCtorEq, reduceIte]
                            refine fin_run ?_ (hK _ ?_) <;> clear hK <;> clear K
                            · (first | exact trivial | omega | (simp only [In64] at *; omega) | (simp [In64] at *; omega) | (simp_all; done) | skip)
                            refine qa ?_
                            refine ⟨i5 + 1, [0, 1, 2, 3], ⟨by omega, fun a ha hai pa qa => ?_⟩, by omega, ?_⟩
                            · by_cases hax : pix p a = i5
                              · have h5 := (pix_at ha pa).2
                                rw [hax, x3] at h5
                                have : a = x := by omega
                                rw [this]; exact hgl
                              · exact hi6 a ha (by omega) pa qa
                            · simp only [leq, leA, ev0, evA, evB, evP, fl, gp, tab, simprocAttr, reduceCtorEq, reduceIte] <;> first | trivial | omega
                    · (try simp only [nhs] at hC11)
                      have hyes : Mxn n (op m n) e p q := mxn_cjg G hp hq hinn hN hne fun a ha pa qa => hi6 a ha (by have := (pix_at ha pa).1; omega) pa qa
                      refine qj (qc (qc (qf (qa (qm ?_)))))
                      refine hk_region fun K hK => runs_eval tab_ok ?_
                      simp only [ev0, evA, evB, evP, fl, gp, tab, simprocAttr, reduceCtorEq, reduceIte, il_length]
                      refine fin_run ?_ (hK _ ?_) <;> clear hK <;> clear K
                      · have hq2 := Nat.div_le_self (thl n p).length (thl n q).length
                        generalize (thl n p).length / (thl n q).length = qq at hq2 ⊢
                        first | (simp only [In64]; omega) | (refine ⟨by omega, ?_⟩; simp only [In64]; omega)
                      refine qa (qm ?_)
                      generalize hF : (((thl n p).length / (thl n q).length : Nat) : Int) = F at *
                      refine hk_region fun K hK => runs_eval tab_ok ?_
                      simp only [ev0, evA, evB, evP, fl, gp, tab, simprocAttr, reduceCtorEq, reduceIte]
                      refine fin_run trivial (hK _ ?_) <;> clear hK <;> clear K
                      refine qa (qm (ql ?_))
                      refine hk_loop (ι := Nat) (fun j => ⟨195, [(1, .p (.list (ll ls))), (2, .ptr 0 0), (5, .ptr 1 0), (6, .ptr 2 0), (8, .sl 3 0 (inz ls k).length), (9, .p (.int .i64 ((k + 1 : Nat) : Int))), (16, .p (.int .i64 F)), (17, .p (.int .i64 j))], [.own [.p (.int .i64 n), .p (.list (il m))], .own [.p (.int .i64 0), .p (.int .i64 0)], .own [.p (.int .i64 0), .p (.int .i64 0)], .own (ol (inz ls k))]⟩) (fun j => j ≤ (inz ls k).length ∧ ∀ i, i < j → (inz ls k).getD i 0 < F) (fun j => (inz ls k).length - j) 0 ⟨Nat.zero_le _, fun i hi => by omega⟩ [0, 1, 2, 3] (by simp only [leq, leA, ev0, evA, evB, evP, fl, gp, tab, simprocAttr, reduceCtorEq, reduceIte] <;> first | trivial | omega) fun j hj => ?_
                      obtain ⟨hj1, hj2⟩ := hj
                      refine qm (qm ?_)
                      by_cases g40 : j < (inz ls k).length
                      · refine hk_region fun K hK => runs_eval tab_ok ?_
                        simp only [ev0, evA, evB, evP, fl, gp, tab, simprocAttr, reduceCtorEq, reduceIte, ol_get g40, decide_eq_true (show (j : Int) < ((inz ls k).length : Int) by omega)]
                        refine fin_run ?_ (hK _ ?_) <;> clear hK <;> clear K
                        · (first | exact trivial | omega | (simp only [In64] at *; omega) | (simp [In64] at *; omega) | (simp_all; done) | skip)
                        refine qa ?_
                        refine hk_cond rfl (fun hC15 => ?_) (fun hC15 => ?_)
                        · (try simp only [nhs] at hC15)
                          have hjl : j < (inz ls k).length := by omega
                          refine qh (qa (ql ?_))
                          refine hk_region fun K hK => runs_eval tab_ok ?_
                          simp only [ev0, evA, evB, evP, fl, gp, tab, simprocAttr, reduceCtorEq, reduceIte]
                          refine fin_run ?_ (hK _ ?_) <;> clear hK <;> clear K
                          · (first | exact trivial | omega | (simp only [In64] at *; omega) | (simp [In64] at *; omega) | (simp_all; done) | skip)
                          refine qd (qa ?_)
                          refine ⟨j + 1, [0, 1, 2, 3], ⟨by omega, fun i hi => ?_⟩, by omega, ?_⟩
                          · by_cases hij : i = j
                            · rw [hij]; exact hC15
                            · exact hj2 i (by omega)
                          · simp only [leq, leA, ev0, evA, evB, evP, fl, gp, tab, simprocAttr, reduceCtorEq, reduceIte] <;> first | trivial | omega
                        · (try simp only [nhs] at hC15)
                          have hge : ¬ (inz ls k).getD j 0 < F := hC15
                          refine qj (qc (qc (qf (qa ?_))))
                          have hT : List.take (1 + (List.drop j (inz ls k)).length) (AV.p (.int .i64 F) :: ol (List.drop j (inz ls k))) = AV.p (.int .i64 F) :: ol (List.drop j (inz ls k)) := List.take_of_length_le (by simp only [List.length_cons, ol_length]; omega)
                          have hdl : (List.drop j (inz ls k)).length = (inz ls k).length - j := List.length_drop
                          refine hk_draw mixed (by kernel_rfl) fun K hK => runs_eval tab_ok ?_
                          simp only [ev0, evA, evB, evP, fl, gp, tab, simprocAttr, reduceCtorEq, reduceIte, hT]
                          refine fin_run ?_ (hK _ ?_) <;> clear hK <;> clear K
                          · simp [cellOk, PV.one, ol_ok]
                            omega
                          refine qd (qa ?_)
                          refine hk_region fun K hK => runs_eval tab_ok ?_
                          simp only [ev0, evA, evB, evP, fl, gp, tab, simprocAttr, reduceCtorEq, reduceIte]
                          refine fin_run ?_ (hK _ ?_) <;> clear hK <;> clear K
                          · (first | exact trivial | omega | (simp only [In64] at *; omega) | (simp [In64] at *; omega) | (simp_all; done) | skip)
                          refine qa ?_
                          have hins : inz ls (k + 1) = (inz ls k).take j ++ (F :: (inz ls k).drop j) := by rw [hfs]; exact ins_at (by omega) hj2 fun _ => hge
                          have hl5 : (List.take j (inz ls k)).length = j := by rw [List.length_take]; omega
                          refine ⟨k + 1, [0, 1, 2, 5], ⟨by omega, fun j hj => ?_⟩, by omega, ?_⟩
                          · by_cases hjk : j = k
                            · rw [hjk, hpd, hqd]; exact hyes
                            · exact hk2 j (by omega)
                          rw [hins]
                          simp only [leq, leA, ev0, evA, evB, evP, fl, gp, tab, simprocAttr, reduceCtorEq, reduceIte]
                          all_goals first | trivial | omega | skip
                          refine ⟨?_, by omega⟩
                          exact (show ol (List.take j (inz ls k) ++ F :: List.drop j (inz ls k)) = ol (List.take j (inz ls k)) ++ AV.p (.int .i64 F) :: ol (List.drop j (inz ls k)) by simp [ol, il]).trans (List.take_of_length_le (by simp only [List.length_append, List.length_cons, ol_length]; omega)).symm
                      · refine hk_region fun K hK => runs_eval tab_ok ?_
                        simp only [ev0, evA, evB, evP, fl, gp, tab, simprocAttr, reduceCtorEq, reduceIte, decide_eq_false (show ¬ (j : Int) < ((inz ls k).length : Int) by omega)]
                        refine fin_run trivial (hK _ ?_) <;> clear hK <;> clear K
                        refine qa ?_
                        refine hk_cond rfl (fun hC15 => ?_) (fun hC15 => ?_)
                        · cases hC15
                        · have hjn : j = (inz ls k).length := by omega
                          refine qj (qc (qc (qf (qa ?_))))
                          have hz0 : (inz ls k).length - j = 0 := by omega
                          refine hk_draw mixed (by kernel_rfl) fun K hK => runs_at 8 ?_
                          simp only [List.take_succ_cons, List.take_zero, List.drop_succ_cons, List.drop_zero]
                          refine runs_eval tab_ok ?_
                          simp only [ev0, evA, evB, evP, fl, gp, tab, simprocAttr, reduceCtorEq, reduceIte, hz0]
                          refine fin_run ?_ ?_
                          · omega
                          refine runs_opD (appendNn0_loc tab_ok rfl rfl rfl rfl rfl rfl rfl) rfl (by simp only [dstOk, Nat.reduceLT]) (runs_eval tab_ok ?_)
                          simp only [ev0, evA, evB, evP, fl, gp, tab, simprocAttr, reduceCtorEq, reduceIte, hz0]
                          refine fin_run ?_ (hK _ ?_) <;> clear hK <;> clear K
                          · simp (config := { failIfUnchanged := false }) [cellOk, PV.one, ol_ok]
                            omega
                          refine qd (qa ?_)
                          refine hk_region fun K hK => runs_eval tab_ok ?_
                          simp only [ev0, evA, evB, evP, fl, gp, tab, simprocAttr, reduceCtorEq, reduceIte]
                          refine fin_run ?_ (hK _ ?_) <;> clear hK <;> clear K
                          · (first | exact trivial | omega | (simp only [In64] at *; omega) | (simp [In64] at *; omega) | (simp_all; done) | skip)
                          refine qa ?_
                          have hins : inz ls (k + 1) = (inz ls k).take j ++ (F :: (inz ls k).drop j) := by rw [hfs]; exact ins_at (by omega) hj2 fun hh => absurd hh (by omega)
                          refine ⟨k + 1, [0, 1, 2, 4], ⟨by omega, fun j hj => ?_⟩, by omega, ?_⟩
                          · by_cases hjk : j = k
                            · rw [hjk, hpd, hqd]; exact hyes
                            · exact hk2 j (by omega)
                          rw [hins]
                          simp only [leq, leA, ev0, evA, evB, evP, fl, gp, tab, simprocAttr, reduceCtorEq, reduceIte]
                          have hd0 : List.drop j (inz ls k) = [] := List.drop_eq_nil_of_le (by omega)
                          have hl5 : (List.take j (inz ls k)).length = j := by rw [List.length_take]; omega
                          rw [hd0]
                          refine ⟨congrArg ol (List.take_of_length_le (by simp only [List.length_append, List.length_cons, List.length_nil]; omega)).symm, by simp only [List.length_nil]; omega⟩
            · (try simp only [nhs] at hC6)
              have hkl : k = ls.length - 1 := by omega
              have hsp := fsp_ok ho fun j hj => hk2 j (by omega)
              have hzs := inz_srt ls k
              refine qj (qc (qc (qf (qa (qm ?_)))))
              refine hk_seal 8 3 rfl rfl ?_
              refine hk_draw mixed (by kernel_rfl) fun K hK => runs_eval tab_ok ?_
              simp only [ev0, evA, evB, evP, fl, gp, tab, simprocAttr, reduceCtorEq, reduceIte]
              refine fin_run ?_ (hK _ ?_) <;> clear hK <;> clear K
              · (first | exact trivial | omega | (simp only [In64] at *; omega) | (simp [In64] at *; omega) | (simp_all; done) | skip)
              refine qa (qk ?_)
              simp only [Tryd.results18, enA, ev0, evA, evB, evP, fl, gp, tab, simprocAttr, reduceCtorEq, reduceIte]
              all_goals (rw [hsp, hzs, hkl]; exact ⟨rfl, rfl, rfl⟩)
      · refine hk_draw mixed (by kernel_rfl) fun K hK => runs_eval tab_ok ?_
        simp only [ev0, evA, evB, evP, fl, gp, tab, simprocAttr, reduceCtorEq, reduceIte, ll_length, hl0, il_length, decide_eq_false (show ¬ (((ls.getD 0 []).length : Nat) : Int) = (n : Int) by omega)]
        refine fin_run ?_ (hK _ ?_) <;> clear hK <;> clear K
        · (first | exact trivial | omega | (simp only [In64] at *; omega) | (simp [In64] at *; omega) | (simp_all; done) | skip)
        refine qa ?_
        refine hk_cond rfl (fun hC3 => ?_) (fun hC3 => ?_)
        · have hsz := fsp_size (f := op m n) (e := e) hw (.inl k6)
          refine qm ?_
          refine hk_region fun K hK => runs_eval tab_ok ?_
          simp only [ev0, evA, evB, evP, fl, gp, tab, simprocAttr, reduceCtorEq, reduceIte]
          refine fin_stop trivial (runs_call (f_c 8 0) rfl rfl rfl (by simp only [dstOk, Nat.reduceLT]) (by repeat (first | exact trivial | constructor)) (runs_eval tab_ok ?_))
          simp only [ev0, evA, evB, evP, fl, gp, tab, simprocAttr, reduceCtorEq, reduceIte]
          refine fin_run ?_ (hK _ ?_) <;> clear hK <;> clear K
          · (first | exact trivial | omega | (simp only [In64] at *; omega) | (simp [In64] at *; omega) | (simp_all; done) | skip)
          refine qa (qk (qb ?_))
          simp only [Tryd.results18, enA, ev0, evA, evB, evP, fl, gp, tab, simprocAttr, reduceCtorEq, reduceIte]
          all_goals (rw [hsz]; exact ⟨rfl, rfl, rfl⟩)
        · cases hC3
theorem factorsOf_many (h : GT n m n e) (ls : List (List Int)) (hw : ls.length < 1 ∨ 10 < ls.length) (hl : ls.length ≤ 1000000000) : FnC Tryd.prog 18 [gp n m, .list (ll ls)] (.tup [.list (il (fsp n (op m n) e ls).1), fl (fsp n (op m n) e ls).2]) := by
  have hb := h.2.1.big
  have hml := h.2.1.len
  have hsq := sq_le hb
  rw [fsp_many hw]
  refine fnc_of tab_ok Tryd.func18 rfl (by kernel_rfl) (by rw [Tryd.ntmps18]; exact Nat.le_add_left 2 _) ?_; rw [Tryd.ntmps18]
  refine qm ?_
  refine hk_region fun K hK => runs_eval tab_ok ?_
  simp only [ev0, evA, evB, evP, fl, gp, tab, simprocAttr, reduceCtorEq, reduceIte]
  refine fin_run ?_ (hK _ ?_) <;> clear hK <;> clear K
  · (first | exact trivial | omega | (simp only [In64] at *; omega) | (simp [In64] at *; omega) | (simp_all; done) | skip)
  refine qa (qm ?_)
  refine hk_region fun K hK => runs_eval tab_ok ?_
  simp only [ev0, evA, evB, evP, fl, gp, tab, simprocAttr, reduceCtorEq, reduceIte]
  refine fin_stop trivial (runs_call (gf_c n m (by omega)) rfl rfl rfl (by simp only [dstOk, Nat.reduceLT]) (by repeat (first | exact trivial | constructor)) (runs_eval tab_ok ?_))
  simp only [ev0, evA, evB, evP, fl, gp, tab, simprocAttr, reduceCtorEq, reduceIte, gf_of h]
  refine fin_run ?_ (hK _ ?_) <;> clear hK <;> clear K
  · (first | exact trivial | omega | (simp only [In64] at *; omega) | (simp [In64] at *; omega) | (simp_all; done) | skip)
  refine qa (qm (qm ?_))
  refine hk_region fun K hK => runs_eval tab_ok ?_
  simp only [ev0, evA, evB, evP, fl, gp, tab, simprocAttr, reduceCtorEq, reduceIte]
  refine fin_run ?_ (hK _ ?_) <;> clear hK <;> clear K
  · (first | exact trivial | omega | (simp only [In64] at *; omega) | (simp [In64] at *; omega) | (simp_all; done) | skip)
  refine qa ?_
  refine hk_cond rfl (fun hC1 => ?_) (fun hC1 => ?_)
  · cases hC1
  · (try simp only [nhs] at hC1)
    refine qh (qa (qm (qm ?_)))
    by_cases k4 : ls.length < 1
    · refine hk_region fun K hK => runs_eval tab_ok ?_
      simp only [ev0, evA, evB, evP, fl, gp, tab, simprocAttr, reduceCtorEq, reduceIte, ll_length, decide_eq_true (show ((ls.length : Nat) : Int) < 1 by omega)]
      refine fin_run trivial (hK _ ?_) <;> clear hK <;> clear K
      refine qa ?_
      refine hk_cond rfl (fun hC2 => ?_) (fun hC2 => ?_)
      · refine qm ?_
        refine hk_region fun K hK => runs_eval tab_ok ?_
        simp only [ev0, evA, evB, evP, fl, gp, tab, simprocAttr, reduceCtorEq, reduceIte]
        refine fin_stop trivial (runs_call (f_c 2 0) rfl rfl rfl (by simp only [dstOk, Nat.reduceLT]) (by repeat (first | exact trivial | constructor)) (runs_eval tab_ok ?_))
        simp only [ev0, evA, evB, evP, fl, gp, tab, simprocAttr, reduceCtorEq, reduceIte]
        refine fin_run ?_ (hK _ ?_) <;> clear hK <;> clear K
        · (first | exact trivial | omega | (simp only [In64] at *; omega) | (simp [In64] at *; omega) | (simp_all; done) | skip)
        refine qa (qk (qb ?_))
        simp only [Tryd.results18, enA, ev0, evA, evB, evP, fl, gp, tab, simprocAttr, reduceCtorEq, reduceIte]
        all_goals (simp [il])
      · cases hC2
    · refine hk_region fun K hK => runs_eval tab_ok ?_
      simp only [ev0, evA, evB, evP, fl, gp, tab, simprocAttr, reduceCtorEq, reduceIte, ll_length, decide_eq_false (show ¬ ((ls.length : Nat) : Int) < 1 by omega)]
      refine fin_run trivial (hK _ ?_) <;> clear hK <;> clear K
      refine qa ?_
      refine hk_cond rfl (fun hC2 => ?_) (fun hC2 => ?_)
      · (try simp only [nhs] at hC2)
        refine qm ?_
        refine hk_region fun K hK => runs_eval tab_ok ?_
        simp only [ev0, evA, evB, evP, fl, gp, tab, simprocAttr, reduceCtorEq, reduceIte]
        refine fin_stop trivial (runs_call (f_c 2 0) rfl rfl rfl (by simp only [dstOk, Nat.reduceLT]) (by repeat (first | exact trivial | constructor)) (runs_eval tab_ok ?_))
        simp only [ev0, evA, evB, evP, fl, gp, tab, simprocAttr, reduceCtorEq, reduceIte]
        refine fin_run ?_ (hK _ ?_) <;> clear hK <;> clear K
        · (first | exact trivial | omega | (simp only [In64] at *; omega) | (simp [In64] at *; omega) | (simp_all; done) | skip)
        refine qa (qk (qb ?_))
        simp only [Tryd.results18, enA, ev0, evA, evB, evP, fl, gp, tab, simprocAttr, reduceCtorEq, reduceIte]
        all_goals (simp [il])
      · (try simp only [nhs] at hC2)
        omega
theorem factorsOf_no (N : Int) (m : List Int) (ls : List (List Int)) (hm : m.length ≤ 1000000000000000) (hf : ¬ (gf N m).1 = 0) : FnC Tryd.prog 18 [gp N m, .list (ll ls)] (.tup [.list [], fl (gf N m)]) := by
  refine fnc_of tab_ok Tryd.func18 rfl (by kernel_rfl) (by rw [Tryd.ntmps18]; exact Nat.le_add_left 2 _) ?_; rw [Tryd.ntmps18]
  refine qm ?_
  refine hk_region fun K hK => runs_eval tab_ok ?_
  simp only [ev0, evA, evB, evP, fl, gp, tab, simprocAttr, reduceCtorEq, reduceIte]
  refine fin_run ?_ (hK _ ?_) <;> clear hK <;> clear K
  · (first | exact trivial | omega | (simp only [In64] at *; omega) | (simp [In64] at *; omega) | (simp_all; done) | skip)
  refine qa (qm ?_)
  refine hk_region fun K hK => runs_eval tab_ok ?_
  simp only [ev0, evA, evB, evP, fl, gp, tab, simprocAttr, reduceCtorEq, reduceIte]
  refine fin_stop trivial (runs_call (gf_c N m hm) rfl rfl rfl (by simp only [dstOk, Nat.reduceLT]) (by repeat (first | exact trivial | constructor)) (runs_eval tab_ok ?_))
  simp only [ev0, evA, evB, evP, fl, gp, tab, simprocAttr, reduceCtorEq, reduceIte]
  refine fin_run ?_ (hK _ ?_) <;> clear hK <;> clear K
  · (first | exact trivial | omega | (simp only [In64] at *; omega) | (simp [In64] at *; omega) | (simp_all; done) | skip)
  refine qa (qm (qm ?_))
  refine hk_region fun K hK => runs_eval tab_ok ?_
  simp only [ev0, evA, evB, evP, fl, gp, tab, simprocAttr, reduceCtorEq, reduceIte]
  refine fin_run ?_ (hK _ ?_) <;> clear hK <;> clear K
  · (first | exact trivial | omega | (simp only [In64] at *; omega) | (simp [In64] at *; omega) | (simp_all; done) | skip)
  refine qa ?_
  refine hk_cond rfl (fun hC1 => ?_) (fun hC1 => ?_)
  · (try simp only [nhs] at hC1)
    refine qm ?_
    refine hk_draw mixed (by kernel_rfl) fun K hK => runs_eval tab_ok ?_
    simp only [ev0, evA, evB, evP, fl, gp, tab, simprocAttr, reduceCtorEq, reduceIte]
    refine fin_run ?_ (hK _ ?_) <;> clear hK <;> clear K
    · (first | exact trivial | omega | (simp only [In64] at *; omega) | (simp [In64] at *; omega) | (simp_all; done) | skip)
    refine qa (qk (qb ?_))
    simp only [Tryd.results18, enA, ev0, evA, evB, evP, fl, gp, tab, simprocAttr, reduceCtorEq, reduceIte]
    all_goals (simp [ll])
  · (try simp only [nhs] at hC1)
    exact absurd hC1 hf
end
end Go.Proofs.YtjbfkdaodfdpcaaDoor

/-
  Walks: maps of groups: the fault of a map. Conditions: none.
-/
set_option linter.all false
namespace Go.Proofs.YtjbfkdaodfdpcaaDoor
open Go.Pv

/-- The fault of two groups. -/
def tg (N : Int) (m : List Int) (N' : Int) (m' : List Int) : Int × Int := if (gf N m).1 = 0 then gf N' m' else gf N m

/-- The value of a map. -/
def hv (l : List Int) (a : Nat) : Nat := (l.getD a 0).toNat
def hgood (m m' l : List Int) (n n' a : Nat) : Prop := ∀ b, b < n → op m' n' (hv l a) (hv l b) = hv l (op m n a b)
instance (m m' l : List Int) (n n' a : Nat) : Decidable (hgood m m' l n n' a) := by unfold hgood; infer_instance
def homf2 (m m' l : List Int) (n n' : Nat) : Int × Int :=
  match fst' (fun a => decide (¬ hgood m m' l n n' a)) n with
  | some a => (7, (a : Int))
  | none => (0, 0)
/-- THE FAULT of a map of groups. -/
def homf (N : Int) (m : List Int) (N' : Int) (m' l : List Int) : Int × Int :=
  if ¬ (tg N m N' m').1 = 0 then tg N m N' m'
  else if ¬ (l.length : Int) = N then (8, 0)
  else match fst' (bad N' l) l.length with
    | some i => (3, (i : Int))
    | none => homf2 m m' l N.toNat N'.toNat

/-- A map of groups. -/
def Hom (m m' l : List Int) (n n' : Nat) : Prop := l.length = n ∧ (∀ a, a < n → l.getD a 0 = ((hv l a : Nat) : Int) ∧ hv l a < n') ∧ ∀ a, a < n → hgood m m' l n n' a
end Go.Proofs.YtjbfkdaodfdpcaaDoor

/-
  Walks: lists of lists, one to one, one map then another. Conditions: none.
-/
set_option linter.all false
namespace Go.Proofs.YtjbfkdaodfdpcaaDoor
open Go.Pv

theorem hl_takeL (ls : List (List Int)) : (ll ls).take ls.length = ll ls := List.take_of_length_le (by rw [ll_length]; exact Nat.le_refl _)
theorem hl_takeS (ls : List (List Int)) (x : List Int) : (ll (ls ++ [x])).take (ls.length + 1) = ll (ls ++ [x]) := List.take_of_length_le (by rw [ll_length]; simp)

/-- A list of so many things has each of them. -/
def onto1 (l : List Int) (n : Nat) : Prop := (∀ i, i < n → ((i : Nat) : Int) ∈ l) ∧ l.length = n
instance (l : List Int) (n : Nat) : Decidable (onto1 l n) := by unfold onto1; infer_instance

/-- One map, then another. -/
def cmpl (p q : List Int) : List Int := p.map fun x => q.getD x.toNat 0

theorem ownLists_c (ls : List (List Int)) (hl : ls.length ≤ 1000000) (hw : ∀ w ∈ ls, w.length ≤ 17592186043904) : FnC Tryd.prog 17 [.list (ll ls)] (.list (ll ls)) := by
  refine fnc_of tab_ok Tryd.func17 rfl (by kernel_rfl) (by rw [Tryd.ntmps17]; exact Nat.le_add_left 1 _) ?_; rw [Tryd.ntmps17]
  refine qm ?_
  refine hk_region fun K hK => runs_eval tab_ok ?_
  simp only [ev0, evA, evB, evP, fl, gp, tab, simprocAttr, reduceCtorEq, reduceIte]
  refine fin_run trivial (hK _ ?_) <;> clear hK <;> clear K
  refine qa (qm ?_)
  refine hk_region fun K hK => runs_eval tab_ok ?_
  simp only [ev0, evA, evB, evP, fl, gp, tab, simprocAttr, reduceCtorEq, reduceIte]
  refine fin_run trivial (hK _ ?_) <;> clear hK <;> clear K
  refine qa (qm (qm ?_))
  refine hk_own0 3 rfl ?_
  refine hk_region fun K hK => runs_eval tab_ok ?_
  simp only [ev0, evA, evB, evP, fl, gp, tab, simprocAttr, reduceCtorEq, reduceIte]
  refine fin_run trivial (hK _ ?_) <;> clear hK <;> clear K
  refine qa (ql ?_)
  refine hk_loop (ι := Nat) (fun i => ⟨20, [(0, .p (.list (ll ls))), (3, .sl 0 0 (ls.take i).length), (4, .p (.int .i64 i))], [.own (opl (ll (ls.take i)))]⟩) (fun i => i ≤ ls.length) (fun i => ls.length - i) 0 (Nat.zero_le _) [0] (by simp only [leq, leA, ev0, evA, evB, evP, fl, gp, tab, simprocAttr, reduceCtorEq, reduceIte, hl_takeL, ll_snoc, hl_takeS] <;> first | trivial | (simp [ll, opl]; done)) fun i hi => ?_
  have htk : (ls.take i).length = i := by rw [List.length_take]; omega
  have hll := ll_length (ls.take i)
  refine qm (qm ?_)
  refine hk_region fun K hK => runs_eval tab_ok ?_
  simp only [ev0, evA, evB, evP, fl, gp, tab, simprocAttr, reduceCtorEq, reduceIte, ll_length]
  refine fin_run trivial (hK _ ?_) <;> clear hK <;> clear K
  refine qa ?_
  refine hk_cond rfl (fun hC1 => ?_) (fun hC1 => ?_)
  · (try simp only [nhs] at hC1)
    have hlt : i < ls.length := by omega
    have hst : ls.take (i + 1) = ls.take i ++ [ls.getD i []] := by
      rw [List.take_succ_eq_append_getElem hlt]
      simp [List.getD, List.getElem?_eq_getElem hlt]
    have hwl : (ls.getD i []).length ≤ 17592186043904 := hw _ (by simp [List.getD, List.getElem?_eq_getElem hlt])
    refine qh (qa (qm (ql ?_)))
    refine hk_region fun K hK => runs_eval tab_ok ?_
    simp only [ev0, evA, evB, evP, fl, gp, tab, simprocAttr, reduceCtorEq, reduceIte, ll_get hlt, hl_takeL, ll_snoc]
    refine fin_stop ?_ (runs_call (own_c (ls.getD i []) hwl) rfl rfl rfl (by simp only [dstOk, Nat.reduceLT]) (by repeat (first | exact trivial | constructor)) (runs_eval tab_ok ?_))
    · (first | exact trivial | omega | (simp only [In64] at *; omega) | (simp [In64] at *; omega) | (simp_all; done) | skip)
    simp only [ev0, evA, evB, evP, fl, gp, tab, simprocAttr, reduceCtorEq, reduceIte, ll_get hlt, hl_takeL, ll_snoc]
    refine fin_run ?_ (hK _ ?_) <;> clear hK <;> clear K
    · (first | exact trivial | omega | (simp only [In64] at *; omega) | (simp [In64] at *; omega) | (simp_all; done) | skip)
    refine qd (qa ?_)
    refine hk_region fun K hK => runs_eval tab_ok ?_
    simp only [ev0, evA, evB, evP, fl, gp, tab, simprocAttr, reduceCtorEq, reduceIte]
    refine fin_run ?_ (hK _ ?_) <;> clear hK <;> clear K
    · (first | exact trivial | omega | (simp only [In64] at *; omega) | (simp [In64] at *; omega) | (simp_all; done) | skip)
    refine qa ?_
    refine ⟨i + 1, [1], by omega, by omega, ?_⟩
    rw [hst]
    simp only [leq, leA, ev0, evA, evB, evP, fl, gp, tab, simprocAttr, reduceCtorEq, reduceIte, hl_takeL, ll_snoc, hl_takeS] <;> first | trivial | omega | (simp [ll]; done)
  · (try simp only [nhs] at hC1)
    have hin : i = ls.length := by omega
    rw [hin, List.take_length]
    refine hk_sealp 3 0 (ll_all _) (by show AV.sl 0 0 _ = AV.sl 0 0 _; rw [ll_length]) rfl ?_
    refine qj (qc (qc (qf (qa (qm ?_)))))
    refine hk_region fun K hK => runs_eval tab_ok ?_
    simp only [ev0, evA, evB, evP, fl, gp, tab, simprocAttr, reduceCtorEq, reduceIte]
    refine fin_run trivial (hK _ ?_) <;> clear hK <;> clear K
    refine qa (qk ?_)
    simp only [Tryd.results17, enA, ev0, evA, evB, evP, fl, gp, tab, simprocAttr, reduceCtorEq, reduceIte]
    all_goals (rfl)
end Go.Proofs.YtjbfkdaodfdpcaaDoor

/-
  Arguments of a law, opened: rows of rows of numbers. Conditions: none; a library text.
-/
set_option linter.all false
namespace Go.Pv
open Go.RowKit Go.ChangeShapes Go.WideShapes Go.ChangeAt

section
variable {H : Type} {enc : TypeId × Value → H} {P : Program}
theorem weightsAll_mem {e : TypeId} {f : Nat → Bool} : ∀ {l : List (DataW H)}, (DataW.weightsAll P e l).all f = true → ∀ d ∈ l, (d.weights P e).all f = true
  | [], _, d, hd => by simp at hd
  | x :: r, h, d, hd => by
    simp only [DataW.weightsAll, List.all_append, Bool.and_eq_true] at h
    rcases List.mem_cons.1 hd with rfl | hd
    · exact h.1
    · exact weightsAll_mem h.2 d hd

theorem wcells_one {W : World} {base : Nat} {a : Addr} {u : Value} (h : W.cells? base a 1 = some [u]) : W.cell? a = some u := by
  unfold World.cells? at h
  split at h
  · simp only [List.range_succ, List.range_zero, List.nil_append, List.mapM_cons, List.mapM_nil, Option.bind_eq_bind, Option.pure_def, Option.bind_eq_some_iff] at h
    obtain ⟨v, hv, l, hl, e⟩ := h
    simp only [Option.some.injEq] at hl e
    subst hl
    simp only [List.cons.injEq, and_true] at e
    subst e
    have : a.add 0 = a := by cases a; simp [Addr.add]
    rwa [this] at hv
  · cases h

theorem open_ll {t e ti : TypeId} {W : World} {base : Nat} {v : Value} {d : DataW H} {p : List MemPlace} (ht : P.underlying t = some (.slice e)) (he : P.underlying e = some (.slice ti)) (hti : P.underlying ti = some (.int .i64)) (hce : P.cellsOf e = 1) (hc : P.cellsOf ti = 1)
    (hbe : P.bytesOf e = 24) (hby : P.bytesOf ti = 8) (hval : Value.okWide P W .any base t v) (h : DataW.Trod enc P W 0 (fun _ => true) true t v d p) (hw : (d.weights P t).all (· ≤ reachBytes) = true) :
    ∃ ls : List (List Int), (∀ w ∈ ls, w.length ≤ 17592186043904) ∧ ls.length ≤ 17592186043904 ∧ Reads (fun b => b < W.heap.size) W (.list (ll ls)) v := by
  obtain ⟨a0, len0, cap0, rfl⟩ := okWide_slice ht hval
  obtain ⟨fuel, hf⟩ := h
  rcases DataW.trod_slice ht hf with ⟨hcs, hx⟩ | ⟨a, len, cap, elems, rest, n, _, hcs, hx, hb, hle, hmax, hlen, hel, _, _⟩
  · simp [Value.cells] at hcs
    obtain ⟨rfl, rfl, rfl⟩ := hcs
    exact ⟨[], fun x hx => by simp at hx, Nat.zero_le _, .list0 none 0 fun _ => rfl⟩
  · simp [Value.cells] at hcs
    obtain ⟨rfl, rfl, rfl⟩ := hcs
    simp only [Prod.mk.injEq] at hx
    obtain ⟨rfl, rfl⟩ := hx
    simp only [DataW.weights, ht, hbe, List.all_cons, List.all_append, Bool.and_eq_true, decide_eq_true_eq, List.length_map] at hw
    obtain ⟨hw1, hw2, _⟩ := hw
    unfold reachBytes at hw1
    have each : ∀ i, ∃ xs : List Int, ∃ u : Value, i < len0 → W.cell? (a.add i) = some u ∧ xs.length ≤ 17592186043904 ∧ Reads (fun b => b < W.heap.size) W (.list (il xs)) u := by
      intro i
      by_cases hi : i < len0
      · have h1 := hel i hi
        rw [hce, Nat.mul_one, List.getElem?_eq_getElem (show i < elems.length by omega)] at h1
        obtain ⟨cs, hcs, htr⟩ := Option.bind_eq_some_iff.1 h1
        have hwi := weightsAll_mem hw2 (elems[i]'(by omega)).1 (List.mem_map.2 ⟨_, List.getElem_mem _, rfl⟩)
        obtain ⟨xs, u, rfl, _, g2, g3⟩ := il_of_trod he hti hc hby htr hwi
        exact ⟨xs, u, fun _ => ⟨wcells_one hcs, g2, g3⟩⟩
      · exact ⟨[], undef, fun h => absurd h hi⟩
    obtain ⟨fx, hfx⟩ := Classical.skolem.1 each
    obtain ⟨fu, hfu⟩ := Classical.skolem.1 hfx
    refine ⟨(List.range len0).map fx, fun w hw => ?_, by rw [List.length_map, List.length_range]; omega, ?_⟩
    · obtain ⟨i, hi, rfl⟩ := List.mem_map.1 hw
      exact (hfu i (List.mem_range.1 hi)).2.1
    · have hlen' : (ll ((List.range len0).map fx)).length = len0 := by rw [ll_length, List.length_map, List.length_range]
      by_cases h0 : len0 = 0
      · subst h0
        exact .list0 _ _ fun h => by cases h
      · obtain ⟨b, off, spot⟩ := a
        have hspot : spot = none := by simpa [Addr.add] using World.cell?_spot (hfu 0 (by omega)).1
        subst hspot
        have hone : ∀ x ∈ ll ((List.range len0).map fx), x.cells.length = 1 := by
          intro x hx
          obtain ⟨y, _, rfl⟩ := List.mem_map.1 hx
          rfl
        have hfl : flat (ll ((List.range len0).map fx)) = ll ((List.range len0).map fx) := flat_all_one (ll_all _)
        have hcell' : ∀ c, c < len0 → W.cell? ⟨b, off + c, none⟩ = some (fu c) := fun c hc => by rw [← Go.WideShapes.add_plain]; exact (hfu c hc).1
        have := Reads.list (ok := fun b => b < W.heap.size) (w := W) (ll ((List.range len0).map fx)) b off cap0 1 fu ?_ hone (by rw [hlen']; exact hle) (fun c hcl => ?_) (fun c hcl => ?_)
        · rwa [hlen'] at this
        · have := hcell' 0 (by omega)
          simp only [World.cell?] at this
          by_cases hb : b < W.heap.size
          · exact hb
          · rw [Array.getElem?_eq_none (by omega)] at this
            simp at this
        · rw [hfl, hlen'] at hcl
          exact hcell' c hcl
        · simp only [hfl]
          have hcl2 : c < len0 := by rw [hfl, hlen'] at hcl; exact hcl
          have e : (ll ((List.range len0).map fx))[c]'(by rw [hlen']; exact hcl2) = .list (il (fx c)) := by
            simp [ll]
          rw [e]
          exact (hfu c hcl2).2.2
end
end Go.Pv

/-
  Walks: the law SeriesFactors. Conditions: none.
-/
set_option linter.all false
namespace Go.Proofs.YtjbfkdaodfdpcaaDoor
open Go.Pv

theorem serFac1_c (l : List Int) : FnC Tryd.prog 20 [.ptr [.list (il l)]] (.list (il l)) := by
  refine fnc_of tab_ok Tryd.func20 rfl (by kernel_rfl) (by rw [Tryd.ntmps20]; exact Nat.le_add_left 1 _) ?_; rw [Tryd.ntmps20]
  refine qm ?_
  refine hk_region fun K hK => runs_eval tab_ok ?_
  simp only [ev0, evA, evB, evP, fl, gp, tab, simprocAttr, reduceCtorEq, reduceIte]
  refine fin_run trivial (hK _ ?_) <;> clear hK <;> clear K
  refine qa (qm ?_)
  refine hk_region fun K hK => runs_eval tab_ok ?_
  simp only [ev0, evA, evB, evP, fl, gp, tab, simprocAttr, reduceCtorEq, reduceIte]
  refine fin_run ?_ (hK _ ?_) <;> clear hK <;> clear K
  · (first | exact trivial | omega | (simp only [In64] at *; omega) | (simp [In64] at *; omega) | (simp_all; done) | skip)
  refine qa (qk ?_)
  simp only [Tryd.results20, enA, ev0, evA, evB, evP, fl, gp, tab, simprocAttr, reduceCtorEq, reduceIte]
  all_goals ((first | exact rfl | exact ⟨rfl, rfl⟩ | exact ⟨rfl, rfl, rfl⟩ | exact ⟨trivial, rfl⟩ | exact ⟨Nat.le_refl _, rfl⟩ | trivial | (simp; done)))
theorem lawFac_go (N : Int) (m : List Int) (ls : List (List Int)) (r : List Int) (w : Int × Int) (hm : m.length ≤ 17592186043904) (hl : ls.length ≤ 100) (hr : ∀ w ∈ ls, w.length ≤ 17592186043904) (h0 : ¬ w.1 = 0 → r = []) (hrl : r.length ≤ 1000)
    (h1 : FnC Tryd.prog 15 [gp N m, .list (ll ls)] (.tup [.list (il r), fl w])) (h2 : FnC Tryd.prog 18 [gp N m, .list (ll ls)] (.tup [.list (il r), fl w])) : FnC Tryd.prog 3 [gp N m, .list (ll ls)] (.bool true) := by
  refine fnc_of tab_ok Tryd.func3 rfl (by kernel_rfl) (by rw [Tryd.ntmps3]; exact Nat.le_add_left 2 _) ?_; rw [Tryd.ntmps3]
  refine qm ?_
  refine hk_region fun K hK => runs_eval tab_ok ?_
  simp only [ev0, evA, evB, evP, fl, gp, tab, simprocAttr, reduceCtorEq, reduceIte]
  refine fin_run ?_ (hK _ ?_) <;> clear hK <;> clear K
  · (first | exact trivial | omega | (simp only [In64] at *; omega) | (simp [In64] at *; omega) | (simp_all; done) | skip)
  refine qa (qm (qm ?_))
  refine hk_region fun K hK => runs_eval tab_ok ?_
  simp only [ev0, evA, evB, evP, fl, gp, tab, simprocAttr, reduceCtorEq, reduceIte]
  refine fin_stop trivial (runs_call (seriesBegun_c) rfl rfl rfl (by simp only [dstOk, Nat.reduceLT]) (by repeat (first | exact trivial | constructor)) (runs_eval tab_ok ?_))
  simp only [ev0, evA, evB, evP, fl, gp, tab, simprocAttr, reduceCtorEq, reduceIte]
  refine fin_run trivial (hK _ ?_) <;> clear hK <;> clear K
  refine qa ?_
  refine hk_cond rfl (fun hC1 => ?_) (fun hC1 => ?_)
  · cases hC1
  · (try simp only [nhs] at hC1)
    refine qh (qa (qm (qm ?_)))
    refine hk_region fun K hK => runs_eval tab_ok ?_
    simp only [ev0, evA, evB, evP, fl, gp, tab, simprocAttr, reduceCtorEq, reduceIte, ll_length]
    refine fin_run trivial (hK _ ?_) <;> clear hK <;> clear K
    refine qa ?_
    refine hk_cond rfl (fun hC2 => ?_) (fun hC2 => ?_)
    · (try simp only [nhs] at hC2)
      omega
    · (try simp only [nhs] at hC2)
      refine qh (qa (qm ?_))
      refine hk_region fun K hK => runs_eval tab_ok ?_
      simp only [ev0, evA, evB, evP, fl, gp, tab, simprocAttr, reduceCtorEq, reduceIte]
      refine fin_stop trivial (runs_call (ownGroup_c N m hm) rfl rfl rfl (by simp only [dstOk, Nat.reduceLT]) (by repeat (first | exact trivial | constructor)) (runs_eval tab_ok ?_))
      simp only [ev0, evA, evB, evP, fl, gp, tab, simprocAttr, reduceCtorEq, reduceIte]
      refine fin_stop trivial (runs_call (ownLists_c ls (by omega) hr) rfl rfl rfl (by simp only [dstOk, Nat.reduceLT]) (by repeat (first | exact trivial | constructor)) (runs_eval tab_ok ?_))
      simp only [ev0, evA, evB, evP, fl, gp, tab, simprocAttr, reduceCtorEq, reduceIte]
      refine fin_stop trivial (runs_call (h1) rfl rfl rfl (by simp only [dstOk, Nat.reduceLT]) (by repeat (first | exact trivial | constructor)) (runs_eval tab_ok ?_))
      simp only [ev0, evA, evB, evP, fl, gp, tab, simprocAttr, reduceCtorEq, reduceIte]
      refine fin_run ?_ (hK _ ?_) <;> clear hK <;> clear K
      · (first | exact trivial | omega | (simp only [In64] at *; omega) | (simp [In64] at *; omega) | (simp_all; done) | skip)
      refine qa (qm ?_)
      refine hk_region fun K hK => runs_eval tab_ok ?_
      simp only [ev0, evA, evB, evP, fl, gp, tab, simprocAttr, reduceCtorEq, reduceIte]
      refine fin_stop trivial (runs_call (h2) rfl rfl rfl (by simp only [dstOk, Nat.reduceLT]) (by repeat (first | exact trivial | constructor)) (runs_eval tab_ok ?_))
      simp only [ev0, evA, evB, evP, fl, gp, tab, simprocAttr, reduceCtorEq, reduceIte]
      refine fin_run ?_ (hK _ ?_) <;> clear hK <;> clear K
      · (first | exact trivial | omega | (simp only [In64] at *; omega) | (simp [In64] at *; omega) | (simp_all; done) | skip)
      refine qa (qm ?_)
      refine hk_freeze 2 rfl rfl ?_
      simp only [hset]
      refine hk_region fun K hK => runs_eval tab_ok ?_
      simp only [ev0, evA, evB, evP, fl, gp, tab, simprocAttr, reduceCtorEq, reduceIte]
      refine fin_stop trivial (runs_call (listAs_c r w _ _ (by omega) h0 (fun _ => serFac1_c r)) rfl rfl rfl (by simp only [dstOk, Nat.reduceLT]) (by repeat (first | exact trivial | constructor)) (runs_eval tab_ok ?_))
      simp only [ev0, evA, evB, evP, fl, gp, tab, simprocAttr, reduceCtorEq, reduceIte]
      refine fin_run ?_ (hK _ ?_) <;> clear hK <;> clear K
      · (first | exact trivial | omega | (simp only [In64] at *; omega) | (simp [In64] at *; omega) | (simp_all; done) | skip)
      refine qa (qk ?_)
      simp only [Tryd.results3, enA, ev0, evA, evB, evP, fl, gp, tab, simprocAttr, reduceCtorEq, reduceIte]
      all_goals (rfl)
theorem lawFac_big (N : Int) (m : List Int) (ls : List (List Int)) (hl : ¬ ls.length ≤ 100) : FnC Tryd.prog 3 [gp N m, .list (ll ls)] (.bool true) := by
  refine fnc_of tab_ok Tryd.func3 rfl (by kernel_rfl) (by rw [Tryd.ntmps3]; exact Nat.le_add_left 2 _) ?_; rw [Tryd.ntmps3]
  refine qm ?_
  refine hk_region fun K hK => runs_eval tab_ok ?_
  simp only [ev0, evA, evB, evP, fl, gp, tab, simprocAttr, reduceCtorEq, reduceIte]
  refine fin_run ?_ (hK _ ?_) <;> clear hK <;> clear K
  · (first | exact trivial | omega | (simp only [In64] at *; omega) | (simp [In64] at *; omega) | (simp_all; done) | skip)
  refine qa (qm (qm ?_))
  refine hk_region fun K hK => runs_eval tab_ok ?_
  simp only [ev0, evA, evB, evP, fl, gp, tab, simprocAttr, reduceCtorEq, reduceIte]
  refine fin_stop trivial (runs_call (seriesBegun_c) rfl rfl rfl (by simp only [dstOk, Nat.reduceLT]) (by repeat (first | exact trivial | constructor)) (runs_eval tab_ok ?_))
  simp only [ev0, evA, evB, evP, fl, gp, tab, simprocAttr, reduceCtorEq, reduceIte]
  refine fin_run trivial (hK _ ?_) <;> clear hK <;> clear K
  refine qa ?_
  refine hk_cond rfl (fun hC1 => ?_) (fun hC1 => ?_)
  · cases hC1
  · (try simp only [nhs] at hC1)
    refine qh (qa (qm (qm ?_)))
    refine hk_region fun K hK => runs_eval tab_ok ?_
    simp only [ev0, evA, evB, evP, fl, gp, tab, simprocAttr, reduceCtorEq, reduceIte, ll_length]
    refine fin_run trivial (hK _ ?_) <;> clear hK <;> clear K
    refine qa ?_
    refine hk_cond rfl (fun hC2 => ?_) (fun hC2 => ?_)
    · (try simp only [nhs] at hC2)
      refine qm ?_
      refine hk_region fun K hK => runs_eval tab_ok ?_
      simp only [ev0, evA, evB, evP, fl, gp, tab, simprocAttr, reduceCtorEq, reduceIte]
      refine fin_run trivial (hK _ ?_) <;> clear hK <;> clear K
      refine qa (qk (qb ?_))
      simp only [Tryd.results3, enA, ev0, evA, evB, evP, fl, gp, tab, simprocAttr, reduceCtorEq, reduceIte]
      all_goals (rfl)
    · (try simp only [nhs] at hC2)
      omega
theorem fsp_len {n e : Nat} {f : Nat → Nat → Nat} {ls : List (List Int)} : (fsp n f e ls).1.length ≤ ls.length := by
  by_cases h : (fsp n f e ls).2.1 = 0
  · obtain ⟨h1, h2⟩ := fsp_good h
    rw [fsp_ok h1 h2]
    show (srt _).length ≤ _
    rw [srt_len, facL_len]; omega
  · rw [fsp_bad h]; exact Nat.zero_le _
theorem lawFac_c (N : Int) (m : List Int) (ls : List (List Int)) (hm : m.length ≤ 17592186043904) (hr : ∀ w ∈ ls, w.length ≤ 17592186043904) : FnC Tryd.prog 3 [gp N m, .list (ll ls)] (.bool true) := by
  by_cases hl : ls.length ≤ 100
  · by_cases hf : (gf N m).1 = 0
    · obtain ⟨n, e, h, heI⟩ := gf_ok hf
      obtain rfl := h.1
      have hlen := fsp_len (n := n) (f := op m n) (e := e) (ls := ls)
      by_cases hw : ls.length < 1 ∨ 10 < ls.length
      · exact lawFac_go n m ls _ _ hm hl hr fsp_bad (by omega) (factors_many h ls hw (by omega)) (factorsOf_many h ls hw (by omega))
      · exact lawFac_go n m ls _ _ hm hl hr fsp_bad (by omega) (factors_ok h ls ⟨by omega, by omega⟩ hr) (factorsOf_g h ls ⟨by omega, by omega⟩ hr)
    · exact lawFac_go N m ls [] (gf N m) hm hl hr (fun _ => rfl) (by simp) (factors_no N m ls (by omega) hf) (factorsOf_no N m ls (by omega) hf)
  · exact lawFac_big N m ls hl
end Go.Proofs.YtjbfkdaodfdpcaaDoor

/-
  What the listed package-level variable gives a walk: a table of numbers. Conditions: none; written by a program of this repo.
-/
set_option linter.all false
namespace Go.Proofs.YtjbfkdaodfdpcaaDoor
open Go.Pv Go.ChangeShapes Go.WideShapes Go.ChangeAt Go.WideElems Go.RowKit

theorem own : ownKnob Tryd.prog.godebug = none := by kernel_rfl
theorem laidOut : laidOutB Tryd.prog = true := by kernel_rfl
theorem gG : Tryd.prog.globalNamed "math/bits.deBruijn64tab" = some 0 := by kernel_rfl
theorem tG : (Tryd.prog.globals[0]?).map (·.type) = some 145 := by kernel_rfl
theorem cG : Tryd.prog.cellsOf 5 = 1 := by kernel_rfl
/-- The door's own heap meets the condition. -/
theorem door_met (os : Os) (args : Array Value) : laidMetH Tryd.prog [("math/bits.deBruijn64tab", Rows.laid_math_bits_deBruijn64tab)] ((World.doorLaid Tryd.prog 4000 os).forCall (fun _ _ => 0) ⟨#[], args, []⟩).memory :=
  laidMetH_of_parts3 (fuel := 8) (laidMet_of_run' 8 (by kernel_rfl) (by kernel_rfl)) (by kernel_rfl) (by kernel_rfl)

def convD : DataW Unit → PV
  | .lit (.int k n) => .int k n
  | _ => .nil
def datum : List (DataW Unit) → List PV := List.map convD
theorem glob_datum : (match (Rows.laid_math_bits_deBruijn64tab : DataW Unit) with | .agg l => datum l | _ => []) = glob0 := rfl

theorem laid_ok {W : World} (h : laidMetH Tryd.prog [("math/bits.deBruijn64tab", Rows.laid_math_bits_deBruijn64tab)] W) : LaidW (fun b => b < W.heap.size) W := by
  refine ⟨fun b h => h, fun g l hg => ?_⟩
  have hg2 : g = 0 ∧ l = glob0 := by
    unfold gv at hg
    by_cases e : g = 0
    · subst e; exact ⟨rfl, (Option.some.inj hg).symm⟩
    · have : (g == 0) = false := by simpa using e
      rw [this] at hg; simp at hg
  obtain ⟨rfl, rfl⟩ := hg2
  rw [MakeChecks.laidMetH_plain _ _ _ (by kernel_rfl)] at h
  obtain ⟨ps, ⟨g0, t0, cs0, f0, p0, q0, hg0, ht0, hv0, hd0, _, _⟩, _, _⟩ := h
  obtain rfl := Option.some.inj (gG.symm.trans hg0)
  obtain rfl := Option.some.inj (tG.symm.trans ht0)
  obtain ⟨xs, m1, rfl, hx1, hlen, hn3, hel⟩ := DataW.trod_array Tryd.underlying145 hd0
  have hd1 : Rows.laid_math_bits_deBruijn64tab = DataW.agg (xs.map (·.1)) := congrArg Prod.fst hx1
  have hgl : glob0 = datum (xs.map (·.1)) := by
    rw [← glob_datum, hd1]
  have key : ∀ c (h : c < glob0.length), W.cell? ⟨0, 0 + c, none⟩ = some ((cs0[c]?).getD undef) ∧ Reads (fun b => b < W.heap.size) W glob0[c] ((cs0[c]?).getD undef) := by
    intro c hc
    have hc2 : c < 64 := Nat.lt_of_lt_of_le hc (by decide)
    have hcx : c < xs.length := by omega
    have h1 := hel c hc2
    rw [List.getElem?_eq_getElem hcx] at h1
    obtain ⟨k, e1, e2, _⟩ := DataW.trod_int Tryd.underlying5 h1
    rw [cG] at e1
    have e3 : cs0.toList[c]? = some (.int .u8 k) := by
      have := congrArg (fun l => l[0]?) e1
      simpa [List.getElem?_take, List.getElem?_drop] using this
    have e4 : cs0[c]? = some (.int .u8 k) := by simpa using e3
    have e5 : glob0[c] = .int .u8 k := by
      have : glob0[c]? = (datum (xs.map (·.1)))[c]? := by rw [hgl]
      rw [List.getElem?_eq_getElem hc] at this
      simp only [datum, List.getElem?_map, List.getElem?_eq_getElem hcx, Option.map_some, Option.some.injEq] at this
      exact this.trans (by rw [e2]; rfl)
    refine ⟨?_, ?_⟩
    · rw [e4, Nat.zero_add, World.var?_cell gG hv0 c, e4]; rfl
    · rw [e4]
      exact e5 ▸ (Reads.int .u8 k)
  refine .ptr _ _ _ (fun c => (cs0[c]?).getD undef) ?_ (fun c hc => (key c hc).1) fun c hc => (key c hc).2
  have := (key 0 (by decide)).1
  unfold World.cell? at this
  rcases Nat.lt_or_ge 0 W.heap.size with h | h
  · exact h
  · exfalso
    rw [Array.getElem?_eq_none h] at this
    simp at this
end Go.Proofs.YtjbfkdaodfdpcaaDoor
