/-
  Operations that make or write memory. Conditions: none; a library text.
-/
import Derived.Test.YtllompejbfbabaaDoorPvG
set_option linter.all false
namespace Go.Pv
open Go.RowKit

def mput (m : Map) (k : Nat) (l : Option Loc) : Map := fun j => if j = k then l else m j

theorem getElem?_snoc_cases {α : Type} {l : List α} {x y : α} {k : Nat} (h : (l ++ [x])[k]? = some y) : (k < l.length ∧ l[k]? = some y) ∨ (k = l.length ∧ x = y) := by
  by_cases hk : k < l.length
  · left; exact ⟨hk, by rwa [List.getElem?_append_left hk] at h⟩
  · right
    have hk2 : k < (l ++ [x]).length := (List.getElem?_eq_some_iff.1 h).1
    simp at hk2
    have e : k = l.length := by omega
    subst e
    simp at h
    exact ⟨rfl, h⟩

section
variable {P : Program} {T : TypeId → Option TI} (hT : ∀ t ti, T t = some ti → tiOf P t = some ti) {C : Ctx} {m : Map} {s : St} {a : Act} {w w' : World}

/-- A NEW BLOCK of the call's own. -/
theorem Rel.newBlk (R : Rel C m s a.tmps w) (hb : Below w.heap.size w w') {cur : Array Value} {e : TypeId} (hg : w'.heap[w.heap.size]? = some (.cells cur e (0, 0))) (hn : cur.size ≤ maxLen)
    {c : List AV} (hcl : c.length ≤ cur.size) (hcells : ∀ j (h : j < c.length), AVal (Reads (OK C m s.H w) w) m s.H c[j] (cur.getD j undef)) :
    Rel C (mput m s.H.length (some ⟨w.heap.size, 0, cur.size⟩)) { s with H := s.H ++ [.own c] } a.tmps w' := by
  have hm : ∀ k, k < s.H.length → mput m s.H.length (some ⟨w.heap.size, 0, cur.size⟩) k = m k := fun k hk => by simp [mput, show k ≠ s.H.length by omega]
  have hmn : mput m s.H.length (some ⟨w.heap.size, 0, cur.size⟩) s.H.length = some ⟨w.heap.size, 0, cur.size⟩ := by simp [mput]
  have hlive := hm
  have hlt : ∀ k c' l, s.H[k]? = some (.own c') → m k = some l → l.g < w.heap.size := by
    intro k c' l h hl
    rcases R.blk k c' h with ⟨_, hn⟩ | ⟨l', cur', e', hl', _, hg', _⟩
    · rw [hl] at hn; cases hn
    · rw [hl] at hl'; cases hl'
      exact (Array.getElem?_eq_some_iff.1 hg').1
  have hok : ∀ b, OK C m s.H w b → ∀ k c' l, (s.H ++ [.own c])[k]? = some (.own c') → mput m s.H.length (some ⟨w.heap.size, 0, cur.size⟩) k = some l → l.g ≠ b := by
    intro b hb k c' l h hl
    rcases getElem?_snoc_cases h with ⟨hk, h⟩ | ⟨rfl, _⟩
    · rw [hm k hk] at hl; exact hb.2.2 k c' l h hl
    · rw [hmn] at hl; cases hl; have := hb.2.1; simp only; omega
  have hheap : ∀ b, OK C m s.H w b → w'.heap[b]? = w.heap[b]? := fun b h => hb.block b h.2.1
  have ho : ∀ b, OK C m s.H w b → OK C (mput m s.H.length (some ⟨w.heap.size, 0, cur.size⟩)) (s.H ++ [.own c]) w' b := fun b h => ⟨h.1, Nat.lt_of_lt_of_le h.2.1 hb.size, hok b h⟩
  refine R.heap (hb.mono R.base) (by simp) hlive hok hheap ?_ ?_ ?_
  · intro k k' c1 c2 l l' h1 h2 h3 h4 h5
    rcases getElem?_snoc_cases h1 with ⟨hk, h1⟩ | ⟨rfl, _⟩ <;> rcases getElem?_snoc_cases h2 with ⟨hk', h2⟩ | ⟨rfl, _⟩
    · rw [hm _ hk] at h3; rw [hm _ hk'] at h4; exact R.inj k k' c1 c2 l l' h1 h2 h3 h4 h5
    · rw [hm _ hk] at h3; rw [hmn] at h4; cases h4
      have := hlt k c1 l h1 h3; simp only at h5; omega
    · rw [hm _ hk'] at h4; rw [hmn] at h3; cases h3
      have := hlt k' c2 l' h2 h4; simp only at h5; omega
    · rfl
  · intro k c' h
    rcases getElem?_snoc_cases h with ⟨hk, h⟩ | ⟨rfl, h'⟩
    · exact (R.blk k c' h).ext (fun p v h => h.ext ho hheap) (by simp) hlive (hm k hk) fun l hl => hb.block _ (hlt k c' l h hl)
    · cases h'
      exact .inr ⟨_, cur, e, hmn, R.base, hg, rfl, hn, by simpa using hcl, fun j hj => by
        have := hcells j hj
        simp only [Nat.zero_add]
        exact this.ext (fun p v h => h.ext ho hheap) (by simp) hlive⟩
  · intro k c' h
    rcases getElem?_snoc_cases h with ⟨hk, h⟩ | ⟨rfl, h'⟩
    · exact (R.fro k c' h).ext ho hheap (hm k hk)
    · cases h'

/-- A new block that holds nothing and lies nowhere. -/
theorem Rel.newNil (R : Rel C m s a.tmps w) : Rel C (mput m s.H.length none) { s with H := s.H ++ [.own []] } a.tmps w := by
  have hm : ∀ k, k < s.H.length → mput m s.H.length none k = m k := fun k hk => by simp [mput, show k ≠ s.H.length by omega]
  have hmn : mput m s.H.length none s.H.length = none := by simp [mput]
  have hlive := hm
  have hok : ∀ b, OK C m s.H w b → ∀ k c' l, (s.H ++ [.own []])[k]? = some (.own c') → mput m s.H.length none k = some l → l.g ≠ b := by
    intro b hb k c' l h hl
    rcases getElem?_snoc_cases h with ⟨hk, h⟩ | ⟨rfl, _⟩
    · rw [hm k hk] at hl; exact hb.2.2 k c' l h hl
    · rw [hmn] at hl; cases hl
  have ho : ∀ b, OK C m s.H w b → OK C (mput m s.H.length none) (s.H ++ [.own []]) w b := fun b h => ⟨h.1, h.2.1, hok b h⟩
  refine R.heap (Below.refl _ _) (by simp) hlive hok (fun _ _ => rfl) ?_ ?_ ?_
  · intro k k' c1 c2 l l' h1 h2 h3 h4 h5
    rcases getElem?_snoc_cases h1 with ⟨hk, h1⟩ | ⟨rfl, _⟩ <;> rcases getElem?_snoc_cases h2 with ⟨hk', h2⟩ | ⟨rfl, _⟩
    · rw [hm _ hk] at h3; rw [hm _ hk'] at h4; exact R.inj k k' c1 c2 l l' h1 h2 h3 h4 h5
    · rw [hmn] at h4; cases h4
    · rw [hmn] at h3; cases h3
    · rfl
  · intro k c' h
    rcases getElem?_snoc_cases h with ⟨hk, h⟩ | ⟨rfl, h'⟩
    · exact (R.blk k c' h).ext (fun p v h => h.ext ho fun _ _ => rfl) (by simp) hlive (hm k hk) fun l hl => rfl
    · cases h'; exact .inl ⟨rfl, hmn⟩
  · intro k c' h
    rcases getElem?_snoc_cases h with ⟨hk, h⟩ | ⟨rfl, h'⟩
    · exact (R.fro k c' h).ext ho (fun _ _ => rfl) (hm k hk)
    · cases h'

theorem hset_length : ∀ (H : Heap) (k : Nat) (b : Blk), (hset H k b).length = H.length
  | [], _, _ => rfl
  | _ :: r, 0, _ => rfl
  | _ :: r, k + 1, b => by simp [hset, hset_length r k b]

theorem hset_get : ∀ (H : Heap) (k : Nat) (b : Blk) (j : Nat), (hset H k b)[j]? = if j = k ∧ k < H.length then some b else H[j]?
  | [], k, b, j => by simp [hset]
  | x :: r, 0, b, j => by cases j <;> simp [hset]
  | x :: r, k + 1, b, j => by
    cases j with
    | zero => simp [hset]
    | succ j => simp [hset, hset_get r k b j]

/-- A BLOCK IS WRITTEN: one cell or some; the others stay. -/
theorem Rel.setBlk (R : Rel C m s a.tmps w) {k : Nat} {c c' : List AV} (hk : s.H[k]? = some (.own c)) {l : Loc} (hm : m k = some l) (hb : Below C.B w w') (hoth : ∀ b, b ≠ l.g → w'.heap[b]? = w.heap[b]?)
    {cur : Array Value} {e : TypeId} (hg : w'.heap[l.g]? = some (.cells cur e (0, 0))) (hs : cur.size = l.n) (hcl : l.o + c'.length ≤ l.n)
    (hcells : ∀ j (h : j < c'.length), AVal (Reads (OK C m s.H w) w) m s.H c'[j] (cur.getD (l.o + j) undef)) : Rel C m { s with H := hset s.H k (.own c') } a.tmps w' := by
  have hkl : k < s.H.length := (List.getElem?_eq_some_iff.1 hk).1
  have hBl : C.B ≤ l.g ∧ l.n ≤ maxLen := by
    rcases R.blk k c hk with ⟨_, hn⟩ | ⟨l', cur', e', hl', hB, hg', h1, h2, _⟩
    · rw [hm] at hn; cases hn
    · rw [hm] at hl'; cases hl'; exact ⟨hB, h2⟩
  have hget : ∀ j b, (hset s.H k (.own c'))[j]? = some b → (j = k ∧ b = .own c') ∨ (j ≠ k ∧ s.H[j]? = some b) := by
    intro j b h
    rw [hset_get] at h
    by_cases e : j = k
    · rw [if_pos ⟨e, hkl⟩] at h; exact .inl ⟨e, (Option.some.inj h).symm⟩
    · rw [if_neg (by simp [e])] at h; exact .inr ⟨e, h⟩
  have hlive : ∀ j, j < s.H.length → m j = m j := fun _ _ => rfl
  have hok : ∀ b, OK C m s.H w b → ∀ j d l, (hset s.H k (.own c'))[j]? = some (.own d) → m j = some l → l.g ≠ b := by
    intro b hb j d l' h hl
    rcases hget j _ h with ⟨rfl, _⟩ | ⟨_, h⟩
    · exact hb.2.2 j c l' hk hl
    · exact hb.2.2 j d l' h hl
  have hheap : ∀ b, OK C m s.H w b → w'.heap[b]? = w.heap[b]? := fun b h => hoth b (fun e => h.2.2 k c l hk hm e.symm)
  have ho : ∀ b, OK C m s.H w b → OK C m (hset s.H k (.own c')) w' b := fun b h => ⟨h.1, Nat.lt_of_lt_of_le h.2.1 hb.size, hok b h⟩
  refine R.heap hb (by simp [hset_length]) hlive hok hheap ?_ ?_ ?_
  · intro j j' c1 c2 l1 l2 h1 h2 h3 h4 h5
    have g : ∀ (j : Nat) (d : List AV), (hset s.H k (.own c'))[j]? = some (Blk.own d) → ∃ d', s.H[j]? = some (Blk.own d') := by
      intro j d h
      rcases hget j _ h with ⟨rfl, _⟩ | ⟨_, h⟩
      · exact ⟨c, hk⟩
      · exact ⟨d, h⟩
    obtain ⟨d1, h1⟩ := g j c1 h1
    obtain ⟨d2, h2⟩ := g j' c2 h2
    exact R.inj j j' d1 d2 l1 l2 h1 h2 h3 h4 h5
  · intro j d h
    rcases hget j _ h with ⟨rfl, h'⟩ | ⟨hne, h⟩
    · cases h'
      exact .inr ⟨l, cur, e, hm, hBl.1, hg, hs, hBl.2, hcl, fun i hi => (hcells i hi).ext (fun p v h => h.ext ho hheap) (by simp [hset_length]) hlive⟩
    · refine (R.blk j d h).ext (fun p v h => h.ext ho hheap) (by simp [hset_length]) hlive rfl fun l' hl' => hoth _ fun e' => hne (R.inj j k d c l' l h hk hl' hm e')
  · intro j d h
    rcases hget j _ h with ⟨rfl, h'⟩ | ⟨hne, h⟩
    · cases h'
    · exact (R.fro j d h).ext ho hheap rfl

/-- A block is left. -/
theorem Rel.kill (R : Rel C m s a.tmps w) (k : Nat) : Rel C m { s with H := hset s.H k .dead } a.tmps w := by
  have hget : ∀ (j : Nat) (b : Blk), (hset s.H k .dead)[j]? = some b → b ≠ .dead → s.H[j]? = some b := by
    intro j b h hne
    rw [hset_get] at h
    by_cases e : j = k ∧ k < s.H.length
    · rw [if_pos e] at h; exact absurd (Option.some.inj h).symm hne
    · rwa [if_neg e] at h
  have hlive : ∀ j, j < s.H.length → m j = m j := fun _ _ => rfl
  have hok : ∀ b, OK C m s.H w b → ∀ j d l, (hset s.H k .dead)[j]? = some (.own d) → m j = some l → l.g ≠ b := fun b hb j d l h hl => hb.2.2 j d l (hget j _ h (by simp)) hl
  have ho : ∀ b, OK C m s.H w b → OK C m (hset s.H k .dead) w b := fun b h => ⟨h.1, h.2.1, hok b h⟩
  refine R.heap (Below.refl _ _) (by simp [hset_length]) hlive hok (fun _ _ => rfl) ?_ ?_ ?_
  · exact fun j j' c1 c2 l1 l2 h1 h2 h3 h4 h5 => R.inj j j' c1 c2 l1 l2 (hget j _ h1 (by simp)) (hget j' _ h2 (by simp)) h3 h4 h5
  · exact fun j d h => (R.blk j d (hget j _ h (by simp))).ext (fun p v h => h.ext ho fun _ _ => rfl) (by simp [hset_length]) hlive rfl fun _ _ => rfl
  · exact fun j d h => (R.fro j d (hget j _ h (by simp))).ext ho (fun _ _ => rfl) rfl

/-- A BLOCK IS LEFT, AND A NEW ONE STANDS FOR IT: in its place or elsewhere. -/
theorem Rel.moveBlk (R : Rel C m s a.tmps w) {k : Nat} {c c' : List AV} (hk : s.H[k]? = some (.own c)) {l' : Loc} (hb : Below C.B w w')
    (hoth : ∀ b, b < w.heap.size → (∀ l, m k = some l → b ≠ l.g) → w'.heap[b]? = w.heap[b]?)
    (hl' : (∃ l, m k = some l ∧ l'.g = l.g) ∨ w.heap.size ≤ l'.g)
    {cur : Array Value} {e : TypeId} (hg : w'.heap[l'.g]? = some (.cells cur e (0, 0))) (hs : cur.size = l'.n) (hn : l'.n ≤ maxLen) (hcl : l'.o + c'.length ≤ l'.n)
    (hcells : ∀ j (h : j < c'.length), AVal (Reads (OK C m s.H w) w) m s.H c'[j] (cur.getD (l'.o + j) undef)) :
    Rel C (mput m s.H.length (some l')) { s with H := hset s.H k .dead ++ [.own c'] } a.tmps w' := by
  have hkl : k < s.H.length := (List.getElem?_eq_some_iff.1 hk).1
  have hlt : ∀ k c' l, s.H[k]? = some (.own c') → m k = some l → C.B ≤ l.g ∧ l.g < w.heap.size := by
    intro k c' l h hl
    rcases R.blk k c' h with ⟨_, hn⟩ | ⟨l', cur', e', hl', hB, hg', _⟩
    · rw [hl] at hn; cases hn
    · rw [hl] at hl'; cases hl'
      exact ⟨hB, (Array.getElem?_eq_some_iff.1 hg').1⟩
  have hget : ∀ j b, (hset s.H k .dead ++ [.own c'])[j]? = some b → b ≠ .dead → (j = s.H.length ∧ b = .own c') ∨ (j < s.H.length ∧ j ≠ k ∧ s.H[j]? = some b) := by
    intro j b h hne
    rcases getElem?_snoc_cases h with ⟨hj, h⟩ | ⟨e, h⟩
    · rw [hset_length] at hj
      rw [hset_get] at h
      by_cases e : j = k
      · rw [if_pos ⟨e, hkl⟩] at h; exact absurd (Option.some.inj h).symm hne
      · rw [if_neg (by simp [e])] at h; exact .inr ⟨hj, e, h⟩
    · rw [hset_length] at e; exact .inl ⟨e, h.symm⟩
  have hm : ∀ j, j < s.H.length → mput m s.H.length (some l') j = m j := fun j hj => by simp [mput, show j ≠ s.H.length by omega]
  have hmn : mput m s.H.length (some l') s.H.length = some l' := by simp [mput]
  have hlive := hm
  have hok : ∀ b, OK C m s.H w b → ∀ j d l, (hset s.H k .dead ++ [.own c'])[j]? = some (.own d) → mput m s.H.length (some l') j = some l → l.g ≠ b := by
    intro b hb j d l2 h hl
    rcases hget j _ h (by simp) with ⟨rfl, _⟩ | ⟨hj, _, h⟩
    · rw [hmn] at hl; cases hl
      rcases hl' with ⟨l, hml, e⟩ | h'
      · rw [e]; exact hb.2.2 k c l hk hml
      · have := hb.2.1; omega
    · rw [hm j hj] at hl; exact hb.2.2 j d l2 h hl
  have hheap : ∀ b, OK C m s.H w b → w'.heap[b]? = w.heap[b]? := fun b h => hoth b h.2.1 fun l hl e => h.2.2 k c l hk hl e.symm
  have ho : ∀ b, OK C m s.H w b → OK C (mput m s.H.length (some l')) (hset s.H k .dead ++ [.own c']) w' b := fun b h => ⟨h.1, Nat.lt_of_lt_of_le h.2.1 hb.size, hok b h⟩
  have hlen : s.H.length ≤ (hset s.H k .dead ++ [Blk.own c']).length := by simp [hset_length]
  have hB' : C.B ≤ l'.g := by
    rcases hl' with ⟨l, hml, e⟩ | h'
    · rw [e]; exact (hlt k c l hk hml).1
    · have := R.base; omega
  refine R.heap hb hlen hlive hok hheap ?_ ?_ ?_
  · intro j j' c1 c2 l1 l2 h1 h2 h3 h4 h5
    have far : ∀ (j : Nat) (d : List AV) (l : Loc), j ≠ k → s.H[j]? = some (Blk.own d) → m j = some l → l.g ≠ l'.g := by
      intro j d l hne h hl e'
      rcases hl' with ⟨l0, hml, e⟩ | h'
      · exact hne (R.inj j k d c l l0 h hk hl hml (by rw [e', e]))
      · have := (hlt j d l h hl).2; omega
    rcases hget j _ h1 (by simp) with ⟨rfl, _⟩ | ⟨hj, hne, h1⟩ <;> rcases hget j' _ h2 (by simp) with ⟨rfl, _⟩ | ⟨hj', hne', h2⟩
    · rfl
    · rw [hmn] at h3; cases h3; rw [hm _ hj'] at h4; exact absurd h5.symm (far j' c2 l2 hne' h2 h4)
    · rw [hmn] at h4; cases h4; rw [hm _ hj] at h3; exact absurd h5 (far j c1 l1 hne h1 h3)
    · rw [hm _ hj] at h3; rw [hm _ hj'] at h4; exact R.inj j j' c1 c2 l1 l2 h1 h2 h3 h4 h5
  · intro j d h
    rcases hget j _ h (by simp) with ⟨rfl, h'⟩ | ⟨hj, hne, h⟩
    · cases h'
      exact .inr ⟨l', cur, e, hmn, hB', hg, hs, hn, hcl, fun i hi => (hcells i hi).ext (fun p v h => h.ext ho hheap) hlen hlive⟩
    · refine (R.blk j d h).ext (fun p v h => h.ext ho hheap) hlen hlive (hm j hj) fun l2 hl2 => hoth _ (hlt j d l2 h hl2).2 fun l hml e' => hne (R.inj j k d c l2 l h hk hl2 hml e')
  · intro j d h
    rcases hget j _ h (by simp) with ⟨rfl, h'⟩ | ⟨hj, hne, h⟩
    · cases h'
    · exact (R.fro j d h).ext ho hheap (hm j hj)

end

end Go.Pv
