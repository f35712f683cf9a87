/-
  Abstract states, and what it means that a frame and a world are of such a state. Conditions: none; a library text.
-/
import Derived.Test.YtllompejbfbabaaDoorPvAG
set_option linter.all false
namespace Go.Pv
open Go.RowKit

/-- What is known of a slot or of a cell. -/
inductive AV where
  | dead
  | p (v : PV)
  | sl (k lo len : Nat)
  | ptr (k i : Nat)
  | agg (l : List AV)
  | tup (l : List AV)

instance : Inhabited AV := ⟨.dead⟩

inductive Blk where
  | own (c : List AV)
  | fro (c : List PV)
  | dead

abbrev Heap := List Blk

structure Loc where
  g : Nat
  o : Nat
  n : Nat

abbrev Map := Nat → Option Loc

/-- A slice value that covers the elements lo .. lo + len of a block of the call's own. -/
def SlOk (m : Map) (k lo len : Nat) (v : Value) : Prop :=
  (len = 0 ∧ ∃ a, v = .slice a 0 0) ∨ ∃ l cap, m k = some l ∧ v = .slice (some ⟨l.g, l.o + lo, none⟩) len cap ∧ len ≤ cap ∧ l.o + lo + cap ≤ l.n

def PtrOk (m : Map) (k i : Nat) (v : Value) : Prop := ∃ l, m k = some l ∧ v = .pointer (some ⟨l.g, l.o + i, none⟩)

inductive AVal (rd : PV → Value → Prop) (m : Map) (H : Heap) : AV → Value → Prop
  | dead (v : Value) : AVal rd m H .dead v
  | p (pv : PV) (v : Value) (h : rd pv v) : AVal rd m H (.p pv) v
  | sl (k lo len : Nat) (v : Value) (hk : k < H.length) (h : SlOk m k lo len v) : AVal rd m H (.sl k lo len) v
  | ptr (k i : Nat) (v : Value) (hk : k < H.length) (h : PtrOk m k i v) : AVal rd m H (.ptr k i) v
  | agg (l : List AV) (vs : Array Value) (hl : vs.size = l.length) (hr : ∀ c (h : c < l.length), AVal rd m H l[c] (vs.getD c undef)) : AVal rd m H (.agg l) (.agg vs)
  | tup (l : List AV) (vs : Array Value) (hl : vs.size = l.length) (hr : ∀ c (h : c < l.length), AVal rd m H l[c] (vs.getD c undef)) : AVal rd m H (.tup l) (.tuple vs)

theorem AVal.ext {rd rd' : PV → Value → Prop} {m m' : Map} {H H' : Heap} (h1 : ∀ p v, rd p v → rd' p v) (hlen : H.length ≤ H'.length)
    (h2 : ∀ k, k < H.length → m' k = m k) {a : AV} {v : Value} (h : AVal rd m H a v) : AVal rd' m' H' a v := by
  induction h with
  | dead v => exact .dead v
  | p pv v h => exact .p pv v (h1 _ _ h)
  | sl k lo len v hk h =>
    refine .sl k lo len v (by omega) ?_
    rcases h with h | ⟨l, cap, h, r⟩
    · exact .inl h
    · exact .inr ⟨l, cap, by rw [h2 k hk]; exact h, r⟩
  | ptr k i v hk h =>
    refine .ptr k i v (by omega) ?_
    obtain ⟨l, h, r⟩ := h
    exact ⟨l, by rw [h2 k hk]; exact h, r⟩
  | agg l vs hl hr ih => exact .agg l vs hl ih
  | tup l vs hl hr ih => exact .tup l vs hl ih

/-- An abstract state: so many slots; what is known of some; the blocks of the call's own. -/
structure St where
  n : Nat
  sl : List (Nat × AV)
  H : Heap

def lk : List (Nat × AV) → Nat → AV
  | [], _ => .dead
  | (i, a) :: r, t => bif i == t then a else lk r t

def St.get (s : St) (t : Nat) : AV := lk s.sl t

/-- What does not turn while a call runs: the blocks that its arguments may meet, the heap's size and the world as it began. -/
structure Ctx where
  okA : Nat → Prop
  B : Nat
  w0 : World

def OK (C : Ctx) (m : Map) (H : Heap) (w : World) (b : Nat) : Prop :=
  (C.okA b ∨ C.B ≤ b) ∧ b < w.heap.size ∧ ∀ k c l, H[k]? = some (.own c) → m k = some l → l.g ≠ b

def BlkMut (B : Nat) (rd : PV → Value → Prop) (m : Map) (H : Heap) (w : World) (k : Nat) (c : List AV) : Prop :=
  (c = [] ∧ m k = none) ∨ ∃ l cur e, m k = some l ∧ B ≤ l.g ∧ w.heap[l.g]? = some (.cells cur e (0, 0)) ∧ cur.size = l.n ∧ l.n ≤ maxLen ∧ l.o + c.length ≤ l.n ∧
    ∀ j (h : j < c.length), AVal rd m H c[j] (cur.getD (l.o + j) undef)

def BlkFro (ok : Nat → Prop) (w : World) (m : Map) (k : Nat) (c : List PV) : Prop :=
  (c = [] ∧ m k = none) ∨ ∃ (l : Loc) (vs : Nat → Value), m k = some l ∧ ok l.g ∧ l.o + c.length ≤ l.n ∧ ∀ j (h : j < c.length), w.cell? ⟨l.g, l.o + j, none⟩ = some (vs j) ∧ Reads ok w c[j] (vs j)

/-- What is known when a call begins: which blocks may be met; package-level variables hold what they hold. -/
def LaidW (ok : Nat → Prop) (w : World) : Prop := (∀ b, ok b → b < w.heap.size) ∧ ∀ g l, gv g = some l → Reads ok w (.ptr l) (.pointer (some ⟨g, 0, none⟩))

structure Rel (C : Ctx) (m : Map) (s : St) (tmps : Array Value) (w : World) : Prop where
  laid : LaidW C.okA C.w0 ∧ C.B = C.w0.heap.size
  below : Below C.B C.w0 w
  base : C.B ≤ w.heap.size
  size : tmps.size = s.n
  inj : ∀ k k' c c' l l', s.H[k]? = some (.own c) → s.H[k']? = some (.own c') → m k = some l → m k' = some l' → l.g = l'.g → k = k'
  blk : ∀ k c, s.H[k]? = some (.own c) → BlkMut C.B (Reads (OK C m s.H w) w) m s.H w k c
  fro : ∀ k c, s.H[k]? = some (.fro c) → BlkFro (OK C m s.H w) w m k c
  slot : ∀ t, AVal (Reads (OK C m s.H w) w) m s.H (s.get t) (tmps.getD t undef)

theorem BlkMut.ext {B : Nat} {rd rd' : PV → Value → Prop} {m m' : Map} {H H' : Heap} {w w' : World} {k : Nat} {c : List AV} (h1 : ∀ p v, rd p v → rd' p v) (hlen : H.length ≤ H'.length)
    (h2 : ∀ k, k < H.length → m' k = m k) (hm : m' k = m k) (hh : ∀ l, m k = some l → w'.heap[l.g]? = w.heap[l.g]?)
    (h : BlkMut B rd m H w k c) : BlkMut B rd' m' H' w' k c := by
  rcases h with ⟨hc, h⟩ | ⟨l, cur, e, h, hB, hg, r1, r2, r3, hj⟩
  · exact .inl ⟨hc, by rw [hm]; exact h⟩
  · exact .inr ⟨l, cur, e, by rw [hm]; exact h, hB, by rw [hh l h]; exact hg, r1, r2, r3, fun j hjl => (hj j hjl).ext h1 hlen h2⟩

theorem BlkFro.ext {ok ok' : Nat → Prop} {m m' : Map} {w w' : World} {k : Nat} {c : List PV} (h1 : ∀ b, ok b → ok' b) (hh : ∀ b, ok b → w'.heap[b]? = w.heap[b]?) (hm : m' k = m k)
    (h : BlkFro ok w m k c) : BlkFro ok' w' m' k c := by
  rcases h with ⟨hc, h⟩ | ⟨l, vs, h, hB, hl, hj⟩
  · exact .inl ⟨hc, by rw [hm]; exact h⟩
  · refine .inr ⟨l, vs, by rw [hm]; exact h, h1 _ hB, hl, fun j hjl => ⟨?_, (hj j hjl).2.ext h1 hh⟩⟩
    rw [World.cell?_of_block (w := w) (hh l.g hB)]
    exact (hj j hjl).1

/-- THE ONE LAW ON A CHANGE OF THE HEAP. -/
theorem Rel.heap {C : Ctx} {m m' : Map} {s : St} {tmps : Array Value} {w w' : World} {H' : Heap} (R : Rel C m s tmps w)
    (hb : Below C.B w w') (hlen : s.H.length ≤ H'.length)
    (hlive : ∀ k, k < s.H.length → m' k = m k)
    (hok : ∀ b, OK C m s.H w b → ∀ k c l, H'[k]? = some (.own c) → m' k = some l → l.g ≠ b)
    (hheap : ∀ b, OK C m s.H w b → w'.heap[b]? = w.heap[b]?)
    (hinj : ∀ k k' c c' l l', H'[k]? = some (.own c) → H'[k']? = some (.own c') → m' k = some l → m' k' = some l' → l.g = l'.g → k = k')
    (hmut : ∀ k c, H'[k]? = some (.own c) → BlkMut C.B (Reads (OK C m' H' w') w') m' H' w' k c)
    (hfro : ∀ k c, H'[k]? = some (.fro c) → BlkFro (OK C m' H' w') w' m' k c) : Rel C m' { s with H := H' } tmps w' := by
  have ho : ∀ b, OK C m s.H w b → OK C m' H' w' b := fun b h => ⟨h.1, Nat.lt_of_lt_of_le h.2.1 hb.size, hok b h⟩
  refine ⟨R.laid, R.below.trans hb, Nat.le_trans R.base hb.size, R.size, hinj, hmut, hfro, fun t => ?_⟩
  exact (R.slot t).ext (fun p v h => h.ext ho hheap) hlen hlive

theorem Rel.okExt {C : Ctx} {m : Map} {H : Heap} {w w' : World} (hb : Below w.heap.size w w') (b : Nat) (h : OK C m H w b) : OK C m H w' b :=
  ⟨h.1, Nat.lt_of_lt_of_le h.2.1 hb.size, h.2.2⟩

/-- The call makes memory that is no block of the state's, or draws. -/
theorem Rel.later {C : Ctx} {m : Map} {s : St} {tmps : Array Value} {w w' : World} (R : Rel C m s tmps w) (hb : Below w.heap.size w w') : Rel C m s tmps w' := by
  have hh : ∀ b, b < w.heap.size → w'.heap[b]? = w.heap[b]? := fun b h => hb.block b h
  have h1 : ∀ b, OK C m s.H w b → OK C m s.H w' b := Rel.okExt hb
  have h2 : ∀ b, OK C m s.H w b → w'.heap[b]? = w.heap[b]? := fun b h => hh b h.2.1
  refine ⟨R.laid, R.below.trans (hb.mono R.base), Nat.le_trans R.base hb.size, R.size, R.inj, fun k c h => ?_, fun k c h => (R.fro k c h).ext h1 h2 rfl, fun t => ?_⟩
  · refine (R.blk k c h).ext (fun p v h => h.ext h1 h2) (Nat.le_refl _) (fun k _ => rfl) rfl fun l hl => ?_
    rcases R.blk k c h with ⟨_, hn⟩ | ⟨l', cur, e, hl', _, hg, _⟩
    · rw [hl] at hn; cases hn
    · rw [hl] at hl'; cases hl'
      exact hh _ (Array.getElem?_eq_some_iff.1 hg).1
  · exact (R.slot t).ext (fun p v h => h.ext h1 h2) (Nat.le_refl _) (fun k _ => rfl)

def St.put (s : St) (d : Option Nat) (a : AV) : St :=
  match d with
  | none => s
  | some d => { s with sl := (d, a) :: s.sl }

theorem St.put_H (s : St) (d : Option Nat) (a : AV) : (s.put d a).H = s.H := by cases d <;> rfl
theorem St.put_n (s : St) (d : Option Nat) (a : AV) : (s.put d a).n = s.n := by cases d <;> rfl

/-- A slot is written. -/
theorem Rel.put {C : Ctx} {m : Map} {s : St} {a : Act} {w : World} {d : Option Nat} {v : Value} {x : AV} (R : Rel C m s a.tmps w) (hd : ∀ t, d = some t → t < s.n)
    (hv : AVal (Reads (OK C m s.H w) w) m s.H x v) : Rel C m (s.put d x) (a.put d v).tmps w := by
  cases d with
  | none => exact R
  | some d =>
    refine ⟨R.laid, R.below, R.base, by simp [Act.put, St.put, R.size], R.inj, R.blk, R.fro, fun t => ?_⟩
    have hs := R.size
    have hlt := hd d rfl
    by_cases h : d = t
    · subst h
      have e : ((a.put (some d) v).tmps.getD d undef) = v := by
        simp [Act.put, Array.getD_eq_getD_getElem?, Array.getElem?_setIfInBounds_self_of_lt (show d < a.tmps.size by omega)]
      rw [e]
      have e2 : (s.put (some d) x).get d = x := by simp [St.put, St.get, lk]
      rw [e2]
      exact hv
    · have e : ((a.put (some d) v).tmps.getD t undef) = a.tmps.getD t undef := by
        simp [Act.put, Array.getD_eq_getD_getElem?, Array.getElem?_setIfInBounds_ne h]
      have e2 : (s.put (some d) x).get t = s.get t := by
        simp [St.put, St.get, lk, show (d == t) = false by simpa using h]
      rw [e, e2]
      exact R.slot t

/-- What an operand is. -/
def cv : Value → AV
  | .int k i => .p (.int k i)
  | .bool b => .p (.bool b)
  | .string s => .p (.str s)
  | .slice none 0 0 => .p .nil
  | _ => .dead

def gva (g : Nat) : AV := match gv g with | some l => .p (.ptr l) | none => .dead

theorem Rel.glob {C : Ctx} {m : Map} {s : St} {tmps : Array Value} {w : World} (R : Rel C m s tmps w) {g : Nat} {l : List PV} (h : gv g = some l) : Reads (OK C m s.H w) w (.ptr l) (.pointer (some ⟨g, 0, none⟩)) := by
  obtain ⟨⟨h1, h2⟩, h3⟩ := R.laid
  refine (h2 g l h).ext (fun b hb => ?_) fun b hb => ?_
  · have hlt := h1 b hb
    refine ⟨.inl hb, Nat.lt_of_lt_of_le hlt R.below.size, fun k c l' hk hl e => ?_⟩
    rcases R.blk k c hk with ⟨_, hn⟩ | ⟨l2, cur, e2, hl2, hB, _⟩
    · rw [hl] at hn; cases hn
    · rw [hl] at hl2; cases hl2
      omega
  · have hlt := h1 b hb
    exact R.below.block b (by omega)
theorem Rel.laidOK {C : Ctx} {m : Map} {s : St} {tmps : Array Value} {w : World} (R : Rel C m s tmps w) : LaidW (OK C m s.H w) w := ⟨fun b h => h.2.1, fun g l h => R.glob h⟩
theorem Rel.laidLt {C : Ctx} {m : Map} {s : St} {tmps : Array Value} {w : World} (R : Rel C m s tmps w) : LaidW (fun b => b < w.heap.size) w := ⟨fun b h => h, fun g l h => (R.glob h).mono fun b hb => hb.2.1⟩

def St.ev (s : St) : Operand → AV
  | .tmp t => s.get t
  | .const v => cv v
  | .func f => .p (.fn f [])
  | .global g => gva g

theorem cv_val {C : Ctx} {m : Map} {H : Heap} {w : World} (v : Value) : AVal (Reads (OK C m H w) w) m H (cv v) v := by
  unfold cv
  split
  · exact .p _ _ (.int _ _)
  · exact .p _ _ (.bool _)
  · exact .p _ _ (.str _)
  · exact .p _ _ .nil
  · exact .dead _

theorem Rel.ev {C : Ctx} {m : Map} {s : St} {a : Act} {w : World} (R : Rel C m s a.tmps w) (x : Operand) : AVal (Reads (OK C m s.H w) w) m s.H (s.ev x) (a.eval x) := by
  cases x with
  | tmp t => exact R.slot t
  | const v => exact cv_val v
  | global g =>
    show AVal _ m s.H (gva g) (.pointer (some ⟨g, 0, none⟩))
    unfold gva
    cases h : gv g with
    | none => exact .dead _
    | some l => exact .p _ _ (R.glob h)
  | func f => exact .p _ _ (.fn f [] #[] rfl (by intro c h; simp at h))

end Go.Pv
