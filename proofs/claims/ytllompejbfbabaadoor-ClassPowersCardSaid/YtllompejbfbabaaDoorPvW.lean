/-
  Ghost steps on what stands in a block. Conditions: none; a library text.
-/
import Derived.Test.YtllompejbfbabaaDoorPvV
set_option linter.all false
namespace Go.Pv
open Go.RowKit

section
variable {P : Program} {T : TypeId → Option TI} {C : Ctx} {m : Map} {s : St} {tmps : Array Value} {w : World} {Q : Exit → St → Prop}

/-- What stands in a block is told in other words. -/
theorem Rel.cells (R : Rel C m s tmps w) {k : Nat} {c c' : List AV} (hk : hget s.H k = .own c) (hl : c'.length = c.length)
    (hc : ∀ j (h : j < c.length) (h' : j < c'.length) v, AVal (Reads (OK C m s.H w) w) m s.H c[j] v → AVal (Reads (OK C m s.H w) w) m s.H c'[j] v) : Rel C m { s with H := hset s.H k (.own c') } tmps w := by
  have hk := hget_mut hk
  have hkl : k < s.H.length := (List.getElem?_eq_some_iff.1 hk).1
  have hget : ∀ (j : Nat) (b : Blk), (hset s.H k (.own c'))[j]? = some b → (j = k ∧ b = .own c') ∨ (j ≠ k ∧ s.H[j]? = some b) := by
    intro j b h
    rw [hset_get] at h
    by_cases e : j = k
    · rw [if_pos ⟨e, hkl⟩] at h; exact .inl ⟨e, (Option.some.inj h).symm⟩
    · rw [if_neg (by simp [e])] at h; exact .inr ⟨e, h⟩
  have own : ∀ (j : Nat) (d : List AV), (hset s.H k (.own c'))[j]? = some (.own d) → ∃ d', s.H[j]? = some (.own d') := by
    intro j d h
    rcases hget j _ h with ⟨rfl, h⟩ | h
    · exact ⟨c, hk⟩
    · exact ⟨d, h.2⟩
  have hok : ∀ b, OK C m s.H w b → ∀ j d l, (hset s.H k (.own c'))[j]? = some (.own d) → m j = some l → l.g ≠ b := fun b hb j d l h hl => by
    obtain ⟨d', h'⟩ := own j d h
    exact hb.2.2 j d' l h' hl
  have ho : ∀ b, OK C m s.H w b → OK C m (hset s.H k (.own c')) w b := fun b h => ⟨h.1, h.2.1, hok b h⟩
  refine R.heap (Below.refl _ _) (by simp [hset_length]) (fun _ _ => rfl) hok (fun _ _ => rfl) ?_ ?_ ?_
  · intro j j' c1 c2 l1 l2 h1 h2 h3 h4 h5
    obtain ⟨d1, g1⟩ := own j c1 h1
    obtain ⟨d2, g2⟩ := own j' c2 h2
    exact R.inj j j' d1 d2 l1 l2 g1 g2 h3 h4 h5
  · intro j d h
    rcases hget j _ h with ⟨rfl, h'⟩ | ⟨hne, h⟩
    · cases h'
      rcases R.blk j c hk with ⟨hc0, hn⟩ | ⟨l, cur, e, hl2, hB, hg, h1, h2, h3, hcells⟩
      · subst hc0
        exact .inl ⟨List.eq_nil_of_length_eq_zero (by simpa using hl), hn⟩
      · refine .inr ⟨l, cur, e, hl2, hB, hg, h1, h2, by omega, fun i hi => ?_⟩
        exact (hc i (by omega) hi _ (hcells i (by omega))).ext (fun p v h => h.ext ho fun _ _ => rfl) (by simp [hset_length]) fun _ _ => rfl
    · exact (R.blk j d h).ext (fun p v h => h.ext ho fun _ _ => rfl) (by simp [hset_length]) (fun _ _ => rfl) rfl fun _ _ => rfl
  · intro j d h
    rcases hget j _ h with ⟨rfl, h'⟩ | ⟨hne, h⟩
    · cases h'
    · exact (R.fro j d h).ext ho (fun _ _ => rfl) rfl

theorem hk_cells {c : Code} (k : Nat) {b b' : List AV} (hk : hget s.H k = .own b) (hl : b'.length = b.length)
    (hc : ∀ C m tmps w, Rel C m s tmps w → ∀ j (h : j < b.length) (h' : j < b'.length) v, AVal (Reads (OK C m s.H w) w) m s.H b[j] v → AVal (Reads (OK C m s.H w) w) m s.H b'[j] v)
    (h : Holds P c Q { s with H := hset s.H k (.own b') }) : Holds P c Q s :=
  fun C m a w R hd => h C m a w (R.cells hk hl (hc C m a.tmps w R)) hd

/-- A cell that is nil is an empty row of the call's own, too. -/
theorem hk_own0c {c : Code} (k j : Nat) {b : List AV} (hk : hget s.H k = .own b) (hj : b[j]? = some (.p .nil)) (h : Holds P c Q { s with H := hset (s.H ++ [.own []]) k (.own (b.set j (.sl s.H.length 0 0))) }) : Holds P c Q s := by
  intro C m a w R hd
  have R' := R.newNil
  have hk' : hget (s.H ++ [.own []]) k = .own b := by
    have h1 := hget_mut hk
    have key : ∀ (H : Heap) (k : Nat) (b : Blk) (H2 : Heap), H[k]? = some b → hget (H ++ H2) k = b := by
      intro H
      induction H with
      | nil => intro k b H2 h; simp at h
      | cons x r ih =>
        intro k b H2 h
        cases k with
        | zero => simp at h; exact h
        | succ k => exact ih k b H2 (by simpa using h)
    exact key _ _ _ _ h1
  refine h C _ a w (R'.cells (s := { s with H := s.H ++ [.own []] }) hk' (by simp) fun i hi hi' v hv => ?_) hd
  by_cases e : j = i
  · subst e
    rw [List.getElem_set_self]
    have hb : b[j] = .p .nil := by
      rw [List.getElem?_eq_getElem hi] at hj
      exact Option.some.inj hj
    rw [hb] at hv
    have := hv.p_inv.nil_inv
    subst this
    exact .sl _ _ _ _ (by simp) <| .inl ⟨rfl, none, rfl⟩
  · rw [List.getElem_set_ne e]
    exact hv

/-- A cell whose row has been frozen is pure. -/
theorem hk_purec {c : Code} (k j : Nat) {b : List AV} {x : AV} (hk : hget s.H k = .own b) (hj : b[j]? = some x) {p : Prop} {pv : PV} (hx : peekS s.H x = some (p, pv, true)) (hp : p)
    (h : Holds P c Q { s with H := hset s.H k (.own (b.set j (.p pv))) }) : Holds P c Q s := by
  refine hk_cells k hk (by simp) (fun C m tmps w R i hi hi' v hv => ?_) h
  by_cases e : j = i
  · subst e
    rw [List.getElem_set_self]
    have hb : b[j] = x := by
      rw [List.getElem?_eq_getElem hi] at hj
      exact Option.some.inj hj
    rw [hb] at hv
    exact .p _ _ ((peekS_val R hv hx hp).2 rfl)
  · rw [List.getElem_set_ne e]
    exact hv

end

/-! ### Rows of pure values, in a block -/

def opl (l : List PV) : List AV := l.map .p

theorem opl_length (l : List PV) : (opl l).length = l.length := by simp [opl]
theorem opl_take (l : List PV) (n : Nat) : (opl l).take n = opl (l.take n) := by simp [opl]
theorem opl_drop (l : List PV) (n : Nat) : (opl l).drop n = opl (l.drop n) := by simp [opl]
theorem opl_append (l r : List PV) : opl l ++ opl r = opl (l ++ r) := by simp [opl]
theorem opl_snoc (l : List PV) (x : PV) : opl l ++ [.p x] = opl (l ++ [x]) := by simp [opl]
theorem opl_ren (l : List PV) (π : List Nat) : (opl l).map (Go.Pv.ren π) = opl l := by simp [opl, Go.Pv.ren, ren1]
theorem opl_sc (l : List PV) (n : Nat) : (opl l).all (scA n) = true := by simp [opl, scA, sc1]
theorem opl_allP (l : List PV) : allP (opl l) = some l := by
  unfold opl
  induction l with
  | nil => rfl
  | cons x r ih => simp [allP, ih]
theorem opl_ok {l : List PV} (h : l.all PV.one = true) : (opl l).all cellOk = true := by
  unfold opl
  rw [List.all_map]
  exact h
theorem oll_ok (r : List (List Int)) : (opl (ll r)).all cellOk = true := opl_ok (ll_all r)
theorem ll_snoc (r : List (List Int)) (x : List Int) : ll r ++ [.list (il x)] = ll (r ++ [x]) := by simp [ll]
theorem ll_nil : ll [] = [] := rfl
theorem opl_map (l : List PV) : l.map AV.p = opl l := rfl

def evP := And.intro @opl_length
  <| And.intro @opl_take
  <| And.intro @opl_drop
  <| And.intro @opl_append
  <| And.intro @opl_snoc
  <| And.intro @opl_ren
  <| And.intro @opl_sc
  <| And.intro @opl_allP
  <| And.intro @oll_ok
  <| And.intro @ll_snoc
  <| And.intro @ll_length
  <| And.intro @ll_all
  <| @ll_cells

theorem hget_hset_same : ∀ (H : Heap) (k : Nat) (b : Blk), k < H.length → hget (hset H k b) k = b
  | [], k, b, h => by simp at h
  | x :: r, 0, b, h => rfl
  | x :: r, k + 1, b, h => hget_hset_same r k b (by simpa using h)

/-- A row of pure values that is written no more. -/
theorem hk_sealp {P : Program} {s : St} {c : Code} {Q : Exit → St → Prop} (t k : Nat) {l : List PV} (hone : l.all PV.one = true) (h1 : s.get t = .sl k 0 l.length) (h2 : hget s.H k = .own (opl l)) (h : Holds P c Q { s with sl := (t, .p (.list l)) :: s.sl, H := hset s.H k (.fro l) }) : Holds P c Q s := by
  refine hk_freeze k h2 (opl_allP l) (hk_pure (s := { s with H := hset s.H k (.fro l) }) t (p := 0 + l.length ≤ l.length ∧ ((l.drop 0).take l.length).all PV.one = true) (pv := .list ((l.drop 0).take l.length)) ?_ ?_ ?_)
  · have e : ({ s with H := hset s.H k (.fro l) } : St).get t = .sl k 0 l.length := h1
    rw [e]
    have hk := hget_mut h2
    have hkl : k < s.H.length := (List.getElem?_eq_some_iff.1 hk).1
    simp only [peekG, peekS, hget_hset_same _ _ _ hkl]
  · simp only [List.drop_zero, take_len]
    exact ⟨by omega, hone⟩
  · simp only [List.drop_zero, take_len]
    exact h

end Go.Pv
