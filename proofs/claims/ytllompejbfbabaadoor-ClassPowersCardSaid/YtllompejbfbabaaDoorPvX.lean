/-
  Regions that draw their order: what each operation touches; blocks that are made. Conditions: none; a library text.
-/
import Derived.Test.YtllompejbfbabaaDoorPvW
set_option linter.all false
namespace Go.Pv
open Go.RowKit

/-! ### Who names a block -/

inductive NoRef (κ : Nat) : AV → Prop
  | dead : NoRef κ .dead
  | p (v : PV) : NoRef κ (.p v)
  | sl (k lo len : Nat) (h : k ≠ κ) : NoRef κ (.sl k lo len)
  | ptr (k i : Nat) (h : k ≠ κ) : NoRef κ (.ptr k i)
  | agg (l : List AV) (h : ∀ c (h : c < l.length), NoRef κ l[c]) : NoRef κ (.agg l)
  | tup (l : List AV) (h : ∀ c (h : c < l.length), NoRef κ l[c]) : NoRef κ (.tup l)

def nr1 (κ : Nat) : AV → Bool
  | .sl k _ _ => k != κ
  | .ptr k _ => k != κ
  | .agg _ => false
  | .tup _ => false
  | _ => true

def nrA (κ : Nat) : AV → Bool
  | .agg l => l.all (nr1 κ)
  | .tup l => l.all (nr1 κ)
  | x => nr1 κ x

theorem nr1_spec {κ : Nat} {x : AV} (h : nr1 κ x = true) : NoRef κ x := by
  cases x with
  | dead => exact .dead
  | p v => exact .p v
  | sl k lo len => exact .sl _ _ _ (by simpa [nr1] using h)
  | ptr k i => exact .ptr _ _ (by simpa [nr1] using h)
  | agg l => simp [nr1] at h
  | tup l => simp [nr1] at h
theorem nrA_spec {κ : Nat} {x : AV} (h : nrA κ x = true) : NoRef κ x := by
  cases x with
  | agg l => exact .agg l fun c hc => nr1_spec ((List.all_eq_true.1 h) _ (List.getElem_mem hc))
  | tup l => exact .tup l fun c hc => nr1_spec ((List.all_eq_true.1 h) _ (List.getElem_mem hc))
  | dead => exact .dead
  | p v => exact .p v
  | sl k lo len => exact nr1_spec h
  | ptr k i => exact nr1_spec h

theorem AVal.noRef {rd : PV → Value → Prop} {m : Map} {H : Heap} {x : AV} {v : Value} (h : AVal rd m H x v) {κ : Nat} (hk : H.length ≤ κ) : NoRef κ x := by
  induction h with
  | dead v => exact .dead
  | p pv v h => exact .p pv
  | sl k lo len v hk' h => exact .sl _ _ _ (by omega)
  | ptr k i v hk' h => exact .ptr _ _ (by omega)
  | agg l vs hl hr ih => exact .agg l ih
  | tup l vs hl hr ih => exact .tup l ih

/-- Other blocks, where those that are named lie as they lay. -/
theorem AVal.extN {rd rd' : PV → Value → Prop} {m m' : Map} {H H' : Heap} {κ L : Nat} (h1 : ∀ p v, rd p v → rd' p v) (h2 : ∀ k, k ≠ κ → k ≠ L → k < H.length → m' k = m k ∧ k < H'.length) {a : AV} {v : Value} (h : AVal rd m H a v) (hk : NoRef κ a) (hL : NoRef L a) : AVal rd' m' H' a v := by
  induction h with
  | dead v => exact .dead v
  | p pv v h => exact .p pv v (h1 _ _ h)
  | sl k lo len v hk' h =>
    cases hk with
    | sl _ _ _ e1 =>
    cases hL with
    | sl _ _ _ e2 =>
    obtain ⟨e3, e4⟩ := h2 k e1 e2 hk'
    refine .sl k lo len v e4 ?_
    rcases h with h | ⟨l, cap, h, r⟩
    · exact .inl h
    · exact .inr ⟨l, cap, by rw [e3]; exact h, r⟩
  | ptr k i v hk' h =>
    cases hk with
    | ptr _ _ e1 =>
    cases hL with
    | ptr _ _ e2 =>
    obtain ⟨e3, e4⟩ := h2 k e1 e2 hk'
    refine .ptr k i v e4 ?_
    obtain ⟨l, h, r⟩ := h
    exact ⟨l, by rw [e3]; exact h, r⟩
  | agg l vs hl hr ih =>
    cases hk with
    | agg _ e1 =>
    cases hL with
    | agg _ e2 => exact .agg l vs hl fun c hc => ih c hc (e1 c hc) (e2 c hc)
  | tup l vs hl hr ih =>
    cases hk with
    | tup _ e1 =>
    cases hL with
    | tup _ e2 => exact .tup l vs hl fun c hc => ih c hc (e1 c hc) (e2 c hc)

section
variable {P : Program} {T : TypeId → Option TI} {C : Ctx} {m : Map} {s : St} {tmps : Array Value} {w : World}

theorem hset_hget : ∀ (H : Heap) (k j : Nat) (b : Blk), hget (hset H k b) j = if j = k ∧ k < H.length then b else hget H j
  | [], k, j, b => by simp [hset]
  | x :: r, 0, 0, b => by simp [hset, hget]
  | x :: r, 0, j + 1, b => by simp [hset, hget]
  | x :: r, k + 1, 0, b => by simp [hset, hget]
  | x :: r, k + 1, j + 1, b => by simp [hset, hget, hset_hget r k j b]

theorem hget_ext : ∀ {H H' : Heap}, H.length = H'.length → (∀ j, hget H j = hget H' j) → H = H'
  | [], [], _, _ => rfl
  | x :: r, y :: t, hl, h => by
    have h0 := h 0
    simp only [hget] at h0
    rw [h0, hget_ext (H := r) (H' := t) (by simpa using hl) fun j => by simpa [hget] using h (j + 1)]
  | [], _ :: _, hl, _ => by simp at hl
  | _ :: _, [], hl, _ => by simp at hl

theorem hget_app1 : ∀ {H H2 : Heap} {j : Nat}, j < H.length → hget (H ++ H2) j = hget H j
  | x :: r, H2, 0, _ => rfl
  | x :: r, H2, j + 1, h => by simpa [hget] using hget_app1 (H := r) (H2 := H2) (j := j) (by simpa using h)
  | [], H2, j, h => by simp at h
theorem hget_app2 : ∀ {H H2 : Heap} {j : Nat}, H.length ≤ j → hget (H ++ H2) j = hget H2 (j - H.length)
  | [], H2, j, _ => by simp
  | x :: r, H2, 0, h => by simp at h
  | x :: r, H2, j + 1, h => by
    simp only [List.cons_append, hget, List.length_cons]
    rw [hget_app2 (H := r) (by simpa using h)]
    congr 1; omega
theorem hget_rep : ∀ (n j : Nat), hget (List.replicate n Blk.dead) j = .dead
  | 0, j => rfl
  | n + 1, 0 => rfl
  | n + 1, j + 1 => by simpa [List.replicate_succ, hget] using hget_rep n j

/-- Dead blocks may be put behind. -/
theorem Rel.pad (R : Rel C m s tmps w) (n : Nat) : Rel C m { s with H := s.H ++ List.replicate n .dead } tmps w := by
  have hg : ∀ (k : Nat) (b : Blk), (s.H ++ List.replicate n .dead)[k]? = some b → b ≠ .dead → s.H[k]? = some b := by
    intro k b h hb
    by_cases hk : k < s.H.length
    · rwa [List.getElem?_append_left hk] at h
    · rw [List.getElem?_append_right (by omega), List.getElem?_replicate] at h
      split at h
      · cases h; exact absurd rfl hb
      · cases h
  have hok : ∀ b, OK C m s.H w b → ∀ k c l, (s.H ++ List.replicate n .dead)[k]? = some (.own c) → m k = some l → l.g ≠ b := fun b hb k c l h hl => hb.2.2 k c l (hg k _ h (by simp)) hl
  have ho : ∀ b, OK C m s.H w b → OK C m (s.H ++ List.replicate n .dead) w b := fun b h => ⟨h.1, h.2.1, hok b h⟩
  refine R.heap (Below.refl _ _) (by simp) (fun _ _ => rfl) hok (fun _ _ => rfl) ?_ ?_ ?_
  · exact fun k k' c c' l l' h1 h2 h3 h4 h5 => R.inj k k' c c' l l' (hg k _ h1 (by simp)) (hg k' _ h2 (by simp)) h3 h4 h5
  · exact fun k c h => (R.blk k c (hg k _ h (by simp))).ext (fun p v h => h.ext ho fun _ _ => rfl) (by simp) (fun _ _ => rfl) rfl fun _ _ => rfl
  · exact fun k c h => (R.fro k c (hg k _ h (by simp))).ext ho (fun _ _ => rfl) rfl

/-- The last block takes a dead one's place. -/
theorem Rel.move {m' : Map} {b : Blk} {w' : World} {κ : Nat} (R : Rel C m s tmps w) (R' : Rel C m' { s with H := s.H ++ [b] } tmps w') (hκ : s.H[κ]? = some .dead)
    (hn : ∀ t, NoRef κ (s.get t)) (hc : ∀ (k : Nat) (c : List AV), s.H[k]? = some (Blk.own c) → ∀ (j : Nat) (h : j < c.length), NoRef κ c[j]) (hb : ∀ (c : List AV), b = Blk.own c → ∀ (j : Nat) (h : j < c.length), NoRef κ c[j] ∧ NoRef s.H.length c[j]) :
    Rel C (mput m' κ (m' s.H.length)) { s with H := hset s.H κ b } tmps w' ∧ (∀ i v, AVal (Reads (OK C m' (s.H ++ [b]) w') w') m' (s.H ++ [b]) (.ptr s.H.length i) v → AVal (Reads (OK C (mput m' κ (m' s.H.length)) (hset s.H κ b) w') w') (mput m' κ (m' s.H.length)) (hset s.H κ b) (.ptr κ i) v) ∧
      (∀ lo len v, AVal (Reads (OK C m' (s.H ++ [b]) w') w') m' (s.H ++ [b]) (.sl s.H.length lo len) v → AVal (Reads (OK C (mput m' κ (m' s.H.length)) (hset s.H κ b) w') w') (mput m' κ (m' s.H.length)) (hset s.H κ b) (.sl κ lo len) v) := by
  have hκl : κ < s.H.length := (List.getElem?_eq_some_iff.1 hκ).1
  have hml : ∀ k, k ≠ κ → mput m' κ (m' s.H.length) k = m' k := fun k hk => by simp [mput, hk]
  have hmk : mput m' κ (m' s.H.length) κ = m' s.H.length := by simp [mput]
  have hgl : (s.H ++ [b])[s.H.length]? = some b := by simp
  -- where each block was
  have hg : ∀ (k : Nat) (d : Blk), (hset s.H κ b)[k]? = some d → (k = κ ∧ d = b) ∨ (k ≠ κ ∧ s.H[k]? = some d ∧ (s.H ++ [b])[k]? = some d) := by
    intro k d h
    rw [hset_get] at h
    by_cases e : k = κ
    · rw [if_pos ⟨e, hκl⟩] at h; exact .inl ⟨e, (Option.some.inj h).symm⟩
    · rw [if_neg (by simp [e])] at h
      exact .inr ⟨e, h, by rw [List.getElem?_append_left (List.getElem?_eq_some_iff.1 h).1]; exact h⟩
  have hok : ∀ x, OK C m' (s.H ++ [b]) w' x → OK C (mput m' κ (m' s.H.length)) (hset s.H κ b) w' x := by
    refine fun x hx => ⟨hx.1, hx.2.1, fun k c l h hl => ?_⟩
    rcases hg k _ h with ⟨rfl, e⟩ | ⟨hne, _, h2⟩
    · rw [hmk] at hl
      exact hx.2.2 _ c l (by rw [hgl, e]) hl
    · rw [hml k hne] at hl
      exact hx.2.2 k c l h2 hl
  have hrd : ∀ p v, Reads (OK C m' (s.H ++ [b]) w') w' p v → Reads (OK C (mput m' κ (m' s.H.length)) (hset s.H κ b) w') w' p v := fun p v h => h.mono hok
  have hmv : ∀ k, k ≠ κ → k ≠ s.H.length → k < (s.H ++ [b]).length → mput m' κ (m' s.H.length) k = m' k ∧ k < (hset s.H κ b).length := by
    intro k h1 h2 h3
    refine ⟨hml k h1, ?_⟩
    rw [hset_length]; simp at h3; omega
  refine ⟨⟨R'.laid, R'.below, R'.base, R'.size, ?_, ?_, ?_, fun t => ?_⟩, fun i v hv => ?_, fun lo len v hv => ?_⟩
  · intro k k' c c' l l' h1 h2 h3 h4 h5
    rcases hg k _ h1 with ⟨rfl, e1⟩ | ⟨n1, g1, f1⟩ <;> rcases hg k' _ h2 with ⟨rfl, e2⟩ | ⟨n2, g2, f2⟩
    · rfl
    · rw [hmk] at h3; rw [hml k' n2] at h4
      have := R'.inj _ k' c c' l l' (by rw [hgl, e1]) f2 h3 h4 h5
      have := (List.getElem?_eq_some_iff.1 g2).1
      omega
    · rw [hmk] at h4; rw [hml k n1] at h3
      have := R'.inj k _ c c' l l' f1 (by rw [hgl, e2]) h3 h4 h5
      have := (List.getElem?_eq_some_iff.1 g1).1
      omega
    · rw [hml k n1] at h3; rw [hml k' n2] at h4
      exact R'.inj k k' c c' l l' f1 f2 h3 h4 h5
  · intro k c h
    rcases hg k _ h with ⟨rfl, e1⟩ | ⟨n1, g1, f1⟩
    · rcases R'.blk _ c (by rw [hgl, e1]) with ⟨a1, a2⟩ | ⟨l, cur, e, a1, a2, a3, a4, a5, a6, a7⟩
      · exact .inl ⟨a1, by rw [hmk]; exact a2⟩
      · exact .inr ⟨l, cur, e, by rw [hmk]; exact a1, a2, a3, a4, a5, a6, fun j hj => (a7 j hj).extN hrd hmv (hb c e1.symm j hj).1 (hb c e1.symm j hj).2⟩
    · rcases R'.blk k c f1 with ⟨a1, a2⟩ | ⟨l, cur, e, a1, a2, a3, a4, a5, a6, a7⟩
      · exact .inl ⟨a1, by rw [hml k n1]; exact a2⟩
      · refine .inr ⟨l, cur, e, by rw [hml k n1]; exact a1, a2, a3, a4, a5, a6, fun j hj => (a7 j hj).extN hrd hmv (hc k c g1 j hj) ?_⟩
        rcases R.blk k c g1 with ⟨b1, _⟩ | ⟨l2, cur2, e2, _, _, _, _, _, _, b7⟩
        · subst b1; simp at hj
        · exact (b7 j hj).noRef (Nat.le_refl _)
  · intro k c h
    rcases hg k _ h with ⟨rfl, e1⟩ | ⟨n1, g1, f1⟩
    · rcases R'.fro _ c (by rw [hgl, e1]) with ⟨a1, a2⟩ | ⟨l, vs, a1, a2, a3, a4⟩
      · exact .inl ⟨a1, by rw [hmk]; exact a2⟩
      · exact .inr ⟨l, vs, by rw [hmk]; exact a1, hok _ a2, a3, fun j hj => ⟨(a4 j hj).1, (a4 j hj).2.mono hok⟩⟩
    · exact (R'.fro k c f1).ext hok (fun _ _ => rfl) (hml k n1)
  · exact (R'.slot t).extN hrd hmv (hn t) ((R.slot t).noRef (Nat.le_refl _))
  · cases hv with
    | ptr _ _ _ hk h =>
      obtain ⟨l, h, r⟩ := h
      exact .ptr _ _ _ (by rw [hset_length]; exact hκl) ⟨l, by rw [hmk]; exact h, r⟩
  · cases hv with
    | sl _ _ _ _ hk h =>
      refine .sl _ _ _ _ (by rw [hset_length]; exact hκl) ?_
      rcases h with h | ⟨l, cap, h, r⟩
      · exact .inl h
      · exact .inr ⟨l, cap, by rw [hmk]; exact h, r⟩

end

end Go.Pv
