/-
  Code: what holds behind it; loops; calls; contracts. Conditions: none; a library text.
-/
import Derived.Test.YtllompejbfbabaaDoorPvN
set_option linter.all false
namespace Go.Pv
open Go.RowKit

/-- FROM THIS STATE ON the code runs to where Q holds. -/
def Holds (P : Program) (c : Code) (Q : Exit → St → Prop) (s : St) : Prop :=
  ∀ C m (a : Act) w, Rel C m s a.tmps w → a.defers = [] → c.wp P (fun e a' w' => ∃ s' m', Q e s' ∧ Rel C m' s' a'.tmps w' ∧ a'.defers = []) a w

def Thn (K : St → Prop) (Q : Exit → St → Prop) : Exit → St → Prop
  | .normal, s => K s
  | e, s => Q e s

def InB (id : Nat) (Q : Exit → St → Prop) : Exit → St → Prop
  | .exit j, s => if j = id then Q .normal s else Q (.exit j) s
  | e, s => Q e s

section
variable {P : Program} {Q : Exit → St → Prop} {s : St}

theorem thn_n {K : St → Prop} (h : K s) : Thn K Q .normal s := h
theorem thn_r {K : St → Prop} (h : Q .ret s) : Thn K Q .ret s := h
theorem thn_x {K : St → Prop} {id : Nat} (h : Q (.exit id) s) : Thn K Q (.exit id) s := h
theorem inb_n {id : Nat} (h : Q .normal s) : InB id Q .normal s := h
theorem inb_r {id : Nat} (h : Q .ret s) : InB id Q .ret s := h
theorem inb_x {id : Nat} (h : Q .normal s) : InB id Q (.exit id) s := by simp only [InB, if_true]; exact h
theorem inb_y {id j : Nat} (hne : (j == id) = false) (h : Q (.exit j) s) : InB id Q (.exit j) s := by
  have : ¬ j = id := by simpa using hne
  simp only [InB, this, if_false]; exact h

theorem hk_mono {c : Code} {Q' : Exit → St → Prop} (hq : ∀ e s, Q e s → Q' e s) (h : Holds P c Q s) : Holds P c Q' s :=
  fun C m a w R hd => wp_mono (h C m a w R hd) fun _ _ _ ⟨s', m', h1, h2⟩ => ⟨s', m', hq _ _ h1, h2⟩

theorem hk_seq {x y : Code} (h : Holds P x (Thn (Holds P y Q) Q) s) : Holds P (.seq x y) Q s := by
  intro C m a w R hd
  refine wp_seq (wp_mono (h C m a w R hd) fun e a' w' ⟨s', m', h1, h2, h3⟩ => ?_)
  cases e with
  | normal => exact h1 C m' a' w' h2 h3
  | _ => exact ⟨s', m', h1, h2, h3⟩

theorem hk_block {id : Nat} {c : Code} (h : Holds P c (InB id Q) s) : Holds P (.block id c) Q s := by
  intro C m a w R hd
  refine wp_block (wp_mono (h C m a w R hd) fun e a' w' ⟨s', m', h1, h2, h3⟩ => ?_)
  cases e with
  | exit j =>
    simp only [InB, Exit.inBlock] at h1 ⊢
    by_cases e : j = id
    · rw [if_pos e] at h1 ⊢; exact ⟨s', m', h1, h2, h3⟩
    · rw [if_neg e] at h1 ⊢; exact ⟨s', m', h1, h2, h3⟩
  | _ => exact ⟨s', m', h1, h2, h3⟩

theorem hk_skip (h : Q .normal s) : Holds P .skip Q s := fun _ m _ _ R hd => wp_skip ⟨s, m, h, R, hd⟩
theorem hk_label {l : Nat} (h : Q .normal s) : Holds P (.label l) Q s := fun _ m _ _ R hd => wp_label ⟨s, m, h, R, hd⟩
theorem hk_exit {id : Nat} (h : Q (.exit id) s) : Holds P (.exit id) Q s := fun _ m _ _ R hd => wp_exit ⟨s, m, h, R, hd⟩
theorem hk_ret (h : Q .ret s) : Holds P .ret Q s := fun _ m _ _ R hd => wp_ret ⟨s, m, h, R, hd⟩

/-- A test: what it is asked of. -/
def testA (s : St) (c : Operand) : Option Bool :=
  match s.ev c with
  | .p (.bool b) => some b
  | _ => none

theorem hk_cond {c : Operand} {x y : Code} {b : Bool} (hc : testA s c = some b) (hx : b = true → Holds P x Q s) (hy : b = false → Holds P y Q s) : Holds P (.cond c x y) Q s := by
  intro C m a w R hd
  have he : a.eval c = .bool b := by
    have := R.ev c
    unfold testA at hc
    split at hc <;> simp only [Option.some.injEq, reduceCtorEq] at hc
    rename_i b' hb
    rw [hb] at this
    rw [← hc]
    exact this.p_inv.bool_inv
  exact wp_cond_split he (fun h => hx h C m a w R hd) (fun h => hy h C m a w R hd)

theorem hk_region {id : Nat} {l : List Oper} (h : ∀ K : St → Prop, (∀ s', Q .normal s' → K s') → Runs P false l.toArray l K s) : Holds P (.region id l.toArray false) Q s := by
  intro C m a w R hd
  obtain ⟨s', hr, hK⟩ := h (Q .normal) fun _ h => h
  exact wp_region_lit (hr.sound R hd fun m' a' w' R' hd' => ⟨s', m', hK, R', hd'⟩)

/-- No operation that writes is guarded. -/
def noGW (l : List Oper) : Bool := l.all fun o => o.guard.isNone || !isW o.op

theorem hk_draw {id : Nat} {l : List Oper} (hm : P.follows .mixedOrders = true) (hok : (drawOK l.toArray && noGW l) = true) (h : ∀ K : St → Prop, (∀ s', Q .normal s' → K s') → Runs P true l.toArray l K s) : Holds P (.region id l.toArray true) Q s := by
  intro C m a w R hd
  rw [Bool.and_eq_true] at hok
  obtain ⟨s', hr, hK⟩ := h (Q .normal) fun _ h => h
  refine wp_region_any hm ?_
  refine draw_sound hok.1 (fun o ho hg => ?_) hr (R.later ⟨rfl, rfl, rfl, Nat.le_refl _, fun _ _ => rfl⟩) hd fun m' a' w' R' hd' => ⟨s', m', hK, R', hd'⟩
  have := (List.all_eq_true.1 hok.2) o ho
  cases hgu : o.guard with
  | none => exact absurd hgu hg
  | some g => rw [hgu] at this; simpa using this

/-! ### Forgetting, and other names for blocks -/

def sc1 (n : Nat) : AV → Bool
  | .sl k _ _ => k < n
  | .ptr k _ => k < n
  | .agg _ => false
  | .tup _ => false
  | _ => true

def scA (n : Nat) : AV → Bool
  | .agg l => l.all (sc1 n)
  | .tup l => l.all (sc1 n)
  | x => sc1 n x

def ren1 (π : List Nat) : AV → AV
  | .sl k lo len => .sl (π.getD k 0) lo len
  | .ptr k i => .ptr (π.getD k 0) i
  | x => x

def ren (π : List Nat) : AV → AV
  | .agg l => .agg (l.map (ren1 π))
  | .tup l => .tup (l.map (ren1 π))
  | x => ren1 π x

/-- Slots that are as they were. -/
def LeS (π : List Nat) : List (Nat × AV) → St → Prop
  | [], _ => True
  | (t, x) :: r, s => s.get t = ren π x ∧ scA π.length x = true ∧ LeS π r s

def LeB (π : List Nat) (H : Heap) (k : Nat) : Blk → Prop
  | .dead => True
  | .own c => (match hget H k with | .own d => c.map (ren π) = d.take c.length ∧ c.all (scA π.length) = true | _ => False)
  | .fro c => hget H k = .fro c

def LeH (π : List Nat) (H : Heap) : List Nat → Heap → Prop
  | [], [] => True
  | k :: ks, b :: r => LeB π H k b ∧ LeH π H ks r
  | _, _ => False

/-- The first says no more than the second; its k-th block is the second's π k-th. -/
def Le (π : List Nat) (s1 s : St) : Prop := s1.n = s.n ∧ π.Nodup ∧ LeH π s.H π s1.H ∧ LeS π s1.sl s

theorem LeS.get {π : List Nat} : ∀ {l : List (Nat × AV)} {s : St}, LeS π l s → ∀ t, lk l t = .dead ∨ (s.get t = ren π (lk l t) ∧ scA π.length (lk l t) = true)
  | [], s, _, t => .inl rfl
  | (i, x) :: r, s, h, t => by
    simp only [lk]
    cases e : (i == t)
    · simp only [cond_false]; exact LeS.get h.2.2 t
    · simp only [cond_true]
      have : i = t := by simpa using e
      subst this
      exact .inr ⟨h.1, h.2.1⟩

theorem LeH.get {π : List Nat} {H : Heap} : ∀ {ks : List Nat} {H1 : Heap}, LeH π H ks H1 → ks.length = H1.length ∧ ∀ (k : Nat) (b : Blk), H1[k]? = some b → ∃ k', ks[k]? = some k' ∧ LeB π H k' b
  | [], [], _ => ⟨rfl, fun k b h => by simp at h⟩
  | k0 :: ks, b0 :: r, h => by
    obtain ⟨h1, h2⟩ := LeH.get h.2
    refine ⟨by simp [h1], fun k b hk => ?_⟩
    cases k with
    | zero => simp at hk; subst hk; exact ⟨k0, rfl, h.1⟩
    | succ k => simpa using h2 k b (by simpa using hk)
  | [], _ :: _, h => h.elim
  | _ :: _, [], h => h.elim

def mren (m : Map) (π : List Nat) : Map := fun k => (π[k]?).bind m

theorem AVal.unren1 {rd rd' : PV → Value → Prop} {m : Map} {H H1 : Heap} {π : List Nat} (h1 : ∀ p v, rd p v → rd' p v) (hl1 : H1.length = π.length) {x : AV} {v : Value} (h : AVal rd m H (ren1 π x) v) (hs : sc1 π.length x = true) : AVal rd' (mren m π) H1 x v := by
  cases x with
  | dead => exact .dead v
  | p pv => exact .p pv v (h1 _ _ h.p_inv)
  | sl k lo len =>
    have hk : k < π.length := by simpa [sc1] using hs
    simp only [ren1, List.getD_eq_getElem?_getD, List.getElem?_eq_getElem hk, Option.getD_some] at h
    cases h with
    | sl _ _ _ _ _ h =>
      refine .sl k lo len v (by omega) ?_
      unfold SlOk mren at *
      rw [List.getElem?_eq_getElem hk]
      exact h
  | ptr k i =>
    have hk : k < π.length := by simpa [sc1] using hs
    simp only [ren1, List.getD_eq_getElem?_getD, List.getElem?_eq_getElem hk, Option.getD_some] at h
    cases h with
    | ptr _ _ _ _ h =>
      refine .ptr k i v (by omega) ?_
      unfold PtrOk mren at *
      rw [List.getElem?_eq_getElem hk]
      exact h
  | agg l => simp [sc1] at hs
  | tup l => simp [sc1] at hs

theorem AVal.unren {rd rd' : PV → Value → Prop} {m : Map} {H H1 : Heap} {π : List Nat} (h1 : ∀ p v, rd p v → rd' p v) (hl1 : H1.length = π.length) {x : AV} {v : Value} (h : AVal rd m H (ren π x) v) (hs : scA π.length x = true) : AVal rd' (mren m π) H1 x v := by
  cases x with
  | agg l =>
    simp only [ren, scA] at h hs
    cases h with
    | agg _ vs hl hr =>
      refine .agg l vs (by simpa using hl) fun c hc => ?_
      have := hr c (by simpa using hc)
      rw [List.getElem_map] at this
      exact this.unren1 h1 hl1 ((List.all_eq_true.1 hs) _ (List.getElem_mem hc))
  | tup l =>
    simp only [ren, scA] at h hs
    cases h with
    | tup _ vs hl hr =>
      refine .tup l vs (by simpa using hl) fun c hc => ?_
      have := hr c (by simpa using hc)
      rw [List.getElem_map] at this
      exact this.unren1 h1 hl1 ((List.all_eq_true.1 hs) _ (List.getElem_mem hc))
  | dead => exact .dead v
  | p pv => exact AVal.unren1 h1 hl1 h hs
  | sl k lo len => exact AVal.unren1 h1 hl1 h hs
  | ptr k i => exact AVal.unren1 h1 hl1 h hs

theorem Rel.weaken {C : Ctx} {m : Map} {s1 : St} {π : List Nat} {tmps : Array Value} {w : World} (R : Rel C m s tmps w) (h : Le π s1 s) : Rel C (mren m π) s1 tmps w := by
  obtain ⟨e1, hnd, h3, h2⟩ := h
  obtain ⟨g1, g2⟩ := h3.get
  have own : ∀ (k : Nat) (c : List AV), s1.H[k]? = some (Blk.own c) → ∃ (k' : Nat) (d : List AV), π[k]? = some k' ∧ s.H[k']? = some (Blk.own d) ∧ c.all (scA π.length) = true ∧ c.map (ren π) = d.take c.length := by
    intro k c hk
    obtain ⟨k', a, b⟩ := g2 k _ hk
    unfold LeB at b
    simp only at b
    split at b
    · rename_i d hd
      exact ⟨k', d, a, hget_mut hd, b.2, b.1⟩
    · exact b.elim
  have ho : ∀ b, OK C m s.H w b → OK C (mren m π) s1.H w b := by
    refine fun b hb => ⟨hb.1, hb.2.1, fun k c l hk hl => ?_⟩
    obtain ⟨k', d, a1, a2, a3, _⟩ := own k c hk
    simp only [mren, a1, Option.bind_some] at hl
    exact hb.2.2 k' _ l a2 hl
  have hr : ∀ p v, Reads (OK C m s.H w) w p v → Reads (OK C (mren m π) s1.H w) w p v := fun p v h => h.mono ho
  refine ⟨R.laid, R.below, R.base, by rw [e1]; exact R.size, ?_, ?_, ?_, fun t => ?_⟩
  · intro k k' c c' l l' a1 a2 a3 a4 a5
    obtain ⟨j, _, b1, b2, _⟩ := own k c a1
    obtain ⟨j', _, b1', b2', _⟩ := own k' c' a2
    simp only [mren, b1, b1', Option.bind_some] at a3 a4
    have := R.inj j j' _ _ l l' b2 b2' a3 a4 a5
    subst this
    obtain ⟨hk, hk2⟩ := List.getElem?_eq_some_iff.1 b1
    obtain ⟨hk', hk2'⟩ := List.getElem?_eq_some_iff.1 b1'
    have hp := List.pairwise_iff_getElem.1 hnd
    rcases Nat.lt_trichotomy k k' with h | h | h
    · exact absurd (hk2.trans hk2'.symm) (hp k k' hk hk' h)
    · exact h
    · exact absurd (hk2'.trans hk2.symm) (hp k' k hk' hk h)
  · intro k c hk
    obtain ⟨k', d, a1, a2, hsc, hcd⟩ := own k c hk
    have hm : mren m π k = m k' := by simp only [mren, a1, Option.bind_some]
    have hlen : c.length ≤ d.length := by
      have := congrArg List.length hcd
      simp only [List.length_map, List.length_take] at this
      omega
    rcases R.blk k' _ a2 with ⟨hc, hn⟩ | ⟨l, cur, e, b1, b2, b3, b4, b5, b6, b7⟩
    · subst hc
      exact .inl ⟨List.eq_nil_of_length_eq_zero (by simpa using hlen), by rw [hm]; exact hn⟩
    · refine .inr ⟨l, cur, e, by rw [hm]; exact b1, b2, b3, b4, b5, by omega, fun j hj => ?_⟩
      have := b7 j (by omega)
      have e : d[j]'(by omega) = ren π c[j] := by
        have h3 : (c.map (ren π))[j]? = (d.take c.length)[j]? := by rw [hcd]
        rw [List.getElem?_map, List.getElem?_eq_getElem hj, List.getElem?_take, if_pos hj, List.getElem?_eq_getElem (by omega)] at h3
        simpa using h3.symm
      rw [e] at this
      exact this.unren hr g1.symm ((List.all_eq_true.1 hsc) _ (List.getElem_mem hj))
  · intro k c hk
    obtain ⟨k', a, b⟩ := g2 k _ hk
    have hm : mren m π k = m k' := by simp only [mren, a, Option.bind_some]
    rcases (R.fro k' c (hget_fro b)).ext (m' := m) ho (fun _ _ => rfl) rfl with ⟨e1, e2⟩ | ⟨l, vs, e1, e2⟩
    · exact .inl ⟨e1, by rw [hm]; exact e2⟩
    · exact .inr ⟨l, vs, by rw [hm]; exact e1, e2⟩
  · rcases h2.get t with e | ⟨e, hsc⟩
    · unfold St.get; rw [e]; exact .dead _
    · have := R.slot t
      rw [e] at this
      exact this.unren hr g1.symm hsc

theorem hk_le {c : Code} {s1 : St} (π : List Nat) (hle : Le π s1 s) (h : Holds P c Q s1) : Holds P c Q s :=
  fun C m a w R hd => h C _ a w (R.weaken hle) hd

/-- A loop: a family of states at its head; a measure. -/
theorem hk_loop {c : Code} {ι : Type} (S : ι → St) (I : ι → Prop) (μ : ι → Nat) (i0 : ι) (h0 : I i0) (π : List Nat) (hs : Le π (S i0) s)
    (step : ∀ i, I i → Holds P c (Thn (fun s' => ∃ j π, I j ∧ μ j < μ i ∧ Le π (S j) s') Q) (S i)) : Holds P (.loop c) Q s := by
  intro C m a w R hd
  let good : Nat → Act → World → Prop := fun n a w => ∃ i m, I i ∧ μ i = n ∧ Rel C m (S i) a.tmps w ∧ a.defers = []
  have least : ∀ (p : Nat → Prop), (∃ n, p n) → ∃ n, p n ∧ ∀ k, p k → n ≤ k := by
    intro p ⟨n, hn⟩
    induction n using Nat.strongRecOn with
    | _ n ih =>
      by_cases h : ∃ k, k < n ∧ p k
      · obtain ⟨k, hk, hp⟩ := h; exact ih k hk hp
      · exact ⟨n, hn, fun k hp => Nat.le_of_not_lt fun hk => h ⟨k, hk, hp⟩⟩
  have hex : ∀ a w, ∃ n, (∃ k, good k a w) → good n a w ∧ ∀ k, good k a w → n ≤ k := by
    intro a w
    by_cases h : ∃ k, good k a w
    · obtain ⟨n, h1, h2⟩ := least _ h; exact ⟨n, fun _ => ⟨h1, h2⟩⟩
    · exact ⟨0, fun h' => absurd h' h⟩
  let ms : Act → World → Nat := fun a w => Classical.choose (hex a w)
  have hms : ∀ a w, (∃ k, good k a w) → good (ms a w) a w ∧ ∀ k, good k a w → ms a w ≤ k := fun a w => Classical.choose_spec (hex a w)
  refine wp_loop (fun a w => ∃ k, good k a w) ms ⟨μ i0, i0, _, h0, rfl, R.weaken hs, hd⟩ fun a w hg => ?_
  obtain ⟨⟨i, m, hI, hμ, R, hd⟩, _⟩ := hms a w hg
  refine wp_mono (step i hI C m a w R hd) fun e a' w' ⟨s', m', h1, h2, h3⟩ => ?_
  cases e with
  | normal =>
    obtain ⟨j, π', hJ, hlt, hle⟩ := h1
    have hg' : good (μ j) a' w' := ⟨j, _, hJ, rfl, h2.weaken hle, h3⟩
    exact ⟨⟨_, hg'⟩, by have := (hms a' w' ⟨_, hg'⟩).2 _ hg'; rw [hμ] at hlt; omega⟩
  | _ => exact ⟨s', m', h1, h2, h3⟩

end

end Go.Pv
