/-
  Texts of this proof, one behind the other: what each says stands at its head. Conditions: none.
-/
import Derived.Test.YtjikchbmkodgfaaDoorProg
import Derived.Shelf.SlLaysF
import Derived.Test.YtjikchbmkodgfaaDoorB5
import Derived.Maps.RangeRun
import Derived.Test.YtjikchbmkodgfaaDoorB3
import Derived.Test.YtjikchbmkodgfaaDoorB4
import Derived.Test.YtjikchbmkodgfaaDoorRows
import Derived.ProofKit
import Derived.LaidMore
import Derived.OpenShut
import Derived.Stop.Joined

/-
  Contracts of the library, laid at this dump: numbers, and that each body is the same. Conditions: none; written by a program of this repo out of the kit's own tool.
-/
set_option linter.all false
namespace Go.Proofs
open Go.Shelf
def Tryd.sortS_ren : Go.Shelf.Ren := ⟨fun | 6 => 108 | 15 => 124 | 14 => 130 | 28 => 145 | 29 => 146 | 20 => 148 | 21 => 149 | 22 => 150 | 23 => 151 | 24 => 152 | 25 => 153 | 26 => 154 | 27 => 155 | 46 => 162 | 47 => 158 | 48 => 159 | 49 => 163 | 50 => 164 | 57 => 166 | n => n, fun | 22 => 68 | 24 => 71 | 25 => 95 | 3 => 3 | 39 => 102 | 0 => 0 | 53 => 118 | 55 => 70 | 4 => 4 | 46 => 111 | 45 => 110 | 50 => 115 | 5 => 5 | 9 => 9 | 66 => 125 | 70 => 129 | 76 => 133 | 77 => 134 | n => n, fun | n => n⟩
def Tryd.sortL_ren : Go.Shelf.Ren := ⟨fun | 6 => 91 | 15 => 124 | 14 => 123 | 28 => 145 | 29 => 146 | 20 => 137 | 21 => 138 | 22 => 139 | 23 => 140 | 24 => 141 | 25 => 142 | 26 => 143 | 27 => 144 | 46 => 157 | 47 => 158 | 48 => 159 | 49 => 160 | 50 => 161 | 57 => 165 | n => n, fun | 22 => 25 | 24 => 22 | 25 => 87 | 3 => 3 | 39 => 102 | 0 => 0 | 53 => 118 | 55 => 70 | 4 => 4 | 46 => 111 | 45 => 110 | 50 => 115 | 5 => 5 | 9 => 9 | 66 => 125 | 70 => 129 | 76 => 133 | 77 => 134 | n => n, fun | n => n⟩
theorem Tryd.sortL : Go.Proofs.SlLaysF.n6 Tryd.prog Tryd.sortL_ren := {
  mixed := by kernel_rfl
  f6 := ⟨Tryd.f91.name, by decide, Tryd.func91.trans (congrArg some (by kernel_rfl))⟩
  f14 := ⟨Tryd.f123.name, by decide, Tryd.func123.trans (congrArg some (by kernel_rfl))⟩
  f15 := Tryd.func124.trans (congrArg some (by kernel_rfl))
  f20 := ⟨Tryd.f137.name, by decide, Tryd.func137.trans (congrArg some (by kernel_rfl))⟩
  f21 := ⟨Tryd.f138.name, by decide, Tryd.func138.trans (congrArg some (by kernel_rfl))⟩
  f22 := ⟨Tryd.f139.name, by decide, Tryd.func139.trans (congrArg some (by kernel_rfl))⟩
  f23 := ⟨Tryd.f140.name, by decide, Tryd.func140.trans (congrArg some (by kernel_rfl))⟩
  f24 := ⟨Tryd.f141.name, by decide, Tryd.func141.trans (congrArg some (by kernel_rfl))⟩
  f25 := ⟨Tryd.f142.name, by decide, Tryd.func142.trans (congrArg some (by kernel_rfl))⟩
  f26 := ⟨Tryd.f143.name, by decide, Tryd.func143.trans (congrArg some (by kernel_rfl))⟩
  f27 := ⟨Tryd.f144.name, by decide, Tryd.func144.trans (congrArg some (by kernel_rfl))⟩
  f28 := Tryd.func145.trans (congrArg some (by kernel_rfl))
  f29 := Tryd.func146.trans (congrArg some (by kernel_rfl))
  f46 := ⟨Tryd.f157.name, by decide, Tryd.func157.trans (congrArg some (by kernel_rfl))⟩
  f47 := Tryd.func158.trans (congrArg some (by kernel_rfl))
  f48 := Tryd.func159.trans (congrArg some (by kernel_rfl))
  f49 := ⟨Tryd.f160.name, by decide, Tryd.func160.trans (congrArg some (by kernel_rfl))⟩
  f50 := ⟨Tryd.f161.name, by decide, Tryd.func161.trans (congrArg some (by kernel_rfl))⟩
  f57 := ⟨Tryd.f165.name, by decide, Tryd.func165.trans (congrArg some (by kernel_rfl))⟩
  t0 := Tryd.underlying0
  a0 := Tryd.isAgg0
  z0 := Tryd.sizeOf0
  v0 := Tryd.zeroValue0
  t3 := Tryd.underlying3
  a3 := Tryd.isAgg3
  z3 := Tryd.sizeOf3
  v3 := Tryd.zeroValue3
  t4 := Tryd.underlying4
  a4 := Tryd.isAgg4
  z4 := Tryd.sizeOf4
  v4 := Tryd.zeroValue4
  t5 := Tryd.underlying5
  a5 := Tryd.isAgg5
  z5 := Tryd.sizeOf5
  v5 := Tryd.zeroValue5
  t9 := Tryd.underlying9
  a9 := Tryd.isAgg9
  z9 := Tryd.sizeOf9
  v9 := Tryd.zeroValue9
  t22 := Tryd.underlying25
  a22 := Tryd.isAgg25
  z22 := Tryd.sizeOf25
  v22 := Tryd.zeroValue25
  a24 := Tryd.isAgg22
  z24 := Tryd.sizeOf22
  t25 := Tryd.underlying87
  a25 := Tryd.isAgg87
  z25 := Tryd.sizeOf87
  v25 := Tryd.zeroValue87
  t39 := Tryd.underlying102
  a39 := Tryd.isAgg102
  z39 := Tryd.sizeOf102
  v39 := Tryd.zeroValue102
  t45 := Tryd.underlying110
  a45 := Tryd.isAgg110
  z45 := Tryd.sizeOf110
  v45 := Tryd.zeroValue110
  t46 := Tryd.underlying111
  a46 := Tryd.isAgg111
  z46 := Tryd.sizeOf111
  v46 := Tryd.zeroValue111
  t50 := Tryd.underlying115
  a50 := Tryd.isAgg115
  z50 := Tryd.sizeOf115
  v50 := Tryd.zeroValue115
  t53 := Tryd.underlying118
  a53 := Tryd.isAgg118
  z53 := Tryd.sizeOf118
  v53 := Tryd.zeroValue118
  t55 := Tryd.underlying70
  a55 := Tryd.isAgg70
  z55 := Tryd.sizeOf70
  v55 := Tryd.zeroValue70
  t66 := Tryd.underlying125
  a66 := Tryd.isAgg125
  z66 := Tryd.sizeOf125
  v66 := Tryd.zeroValue125
  t70 := Tryd.underlying129
  a70 := Tryd.isAgg129
  z70 := Tryd.sizeOf129
  v70 := Tryd.zeroValue129
  t76 := Tryd.underlying133
  a76 := Tryd.isAgg133
  z76 := Tryd.sizeOf133
  v76 := Tryd.zeroValue133
  t77 := Tryd.underlying134
  a77 := Tryd.isAgg134
  z77 := Tryd.sizeOf134
  v77 := Tryd.zeroValue134 }
end Go.Proofs

/-
  A loop over a map of one's own: its entries come in whatever order. Conditions: none; a library text.
-/
set_option linter.all false
namespace Go.Pv
open Go.RowKit

section
variable {P : Program} {C : Ctx} {m : Map} {s : St} {tmps : Array Value} {w : World}

/-- The frame where some blocks are left alone. -/
def holdC (C : Ctx) (X : Nat → Prop) (w : World) : Ctx := ⟨fun b => C.okA b ∨ C.B b, fun b => C.B b ∧ ¬ X b, w, C.anc⟩

theorem holdC_ok (C : Ctx) (X : Nat → Prop) (w0 : World) (m : Map) (H : Heap) (w : World) : OK (holdC C X w0) m H w = OK C m H w := by
  funext b
  unfold OK holdC
  refine propext ⟨fun h => ⟨?_, h.2⟩, fun h => ⟨.inl h.1, h.2⟩⟩
  rcases h.1 with h1 | h1
  · exact h1
  · exact .inr h1.1

theorem Rel.hold (R : Rel C m s tmps w) (X : Nat → Prop) (hX : ∀ b, X b → b < w.heap.size ∧ ∀ cur e sh, w.heap[b]? ≠ some (.cells cur e sh))
    (hmp : ∀ (k : Nat) (kk : IntKind) (d : Int → Bool) (v : Int → PV) (l : Loc), s.H[k]? = some (Blk.mp kk d v) → m k = some l → ¬ X l.g) : Rel (holdC C X w) m s tmps w := by
  have e := holdC_ok C X w m s.H w
  refine ⟨by rw [e]; exact R.laid, BelowP.refl _ _, fun b hb => ⟨R.base b hb, fun hx => by have := (hX b hx).1; omega⟩, R.size, R.inj, fun k c h => ?_, by rw [e]; exact R.fro, by rw [e]; exact R.slot, fun k kk d v h => ?_, R.mp.2.1, R.mp.2.2⟩
  · rw [e]
    rcases R.blk k c h with h1 | ⟨l, cur, ee, a1, a2, a3, a4⟩
    · exact .inl h1
    · exact .inr ⟨l, cur, ee, a1, ⟨a2, fun hx => (hX _ hx).2 _ _ _ a3⟩, a3, a4⟩
  · rw [e]
    obtain ⟨l, ar, clk, vs, a1, a2, a3⟩ := R.mp.1 k kk d v h
    exact ⟨l, ar, clk, vs, a1, ⟨a2, hmp k kk d v l h a1⟩, a3⟩

theorem BelowP.monoB {B B' : Nat → Prop} {a b : World} (h : BelowP B a b) (hB : ∀ k, B k → B' k) : BelowP B' a b :=
  ⟨h.os, h.tape, h.output, h.size, fun k hk => h.block k fun hh => hk (hB k hh), h.dr⟩

theorem Rel.unhold {X : Nat → Prop} {w0 : World} (R : Rel (holdC C X w0) m s tmps w) (hb : BelowP C.B C.w0 w0) : Rel C m s tmps w := by
  have e := holdC_ok C X w0 m s.H w
  have hB : ∀ b, (holdC C X w0).B b → C.B b := fun b h => h.1
  refine ⟨by rw [← e]; exact R.laid, hb.trans (R.below.monoB hB), fun b h => hB b (R.base b h), R.size, R.inj, fun k c h => ?_, by rw [← e]; exact R.fro, by rw [← e]; exact R.slot, fun k kk d v h => ?_, R.mp.2.1, R.mp.2.2⟩
  · rw [← e]
    rcases R.blk k c h with h1 | ⟨l, cur, ee, a1, a2, a3, a4⟩
    · exact .inl h1
    · exact .inr ⟨l, cur, ee, a1, hB _ a2, a3, a4⟩
  · rw [← e]
    obtain ⟨l, ar, clk, vs, a1, a2, a3⟩ := R.mp.1 k kk d v h
    exact ⟨l, ar, clk, vs, a1, hB _ a2, a3⟩

/-- The frame begins anew. -/
theorem Rel.anew {X : Nat → Prop} {w0 : World} (R : Rel (holdC C X w0) m s tmps w) : Rel (holdC C X w) m s tmps w := by
  have e : OK (holdC C X w) m s.H w = OK (holdC C X w0) m s.H w := (holdC_ok C X w m s.H w).trans (holdC_ok C X w0 m s.H w).symm
  exact ⟨by rw [e]; exact R.laid, BelowP.refl _ _, R.base, R.size, R.inj, by rw [e]; exact R.blk, by rw [e]; exact R.fro, by rw [e]; exact R.slot, by rw [e]; exact R.mp⟩

/-- One of the blocks that are left alone turns; it is none of cells. -/
theorem Rel.turn {X : Nat → Prop} {w0 w2 : World} (R : Rel (holdC C X w0) m s tmps w) {r : Nat} (hr : X r) (hw : ∀ cur e sh, w.heap[r]? ≠ some (.cells cur e sh)) (h1 : ∀ b, b ≠ r → w2.heap[b]? = w.heap[b]?) (h2 : w2.heap.size = w.heap.size) : Rel (holdC C X w2) m s tmps w2 := by
  have e : OK (holdC C X w2) m s.H w2 = OK (holdC C X w0) m s.H w := by
    rw [holdC_ok, holdC_ok]
    funext b
    unfold OK
    rw [h2]
  have hcell : ∀ (b o : Nat) (x : Value), w.cell? ⟨b, o, none⟩ = some x → w2.cell? ⟨b, o, none⟩ = some x := fun b o x h => by
    by_cases eb : b = r
    · subst eb
      exfalso
      unfold World.cell? at h
      split at h
      · rename_i hh; exact hw _ _ _ hh
      · cases h
    · rw [World.cell?_of_block (w := w) (h1 b eb)]; exact h
  have rdx : ∀ p x, Reads (OK (holdC C X w0) m s.H w) w p x → Reads (OK (holdC C X w0) m s.H w) w2 p x := fun p x h => h.extc (fun _ h => h) fun b o y _ hc => hcell b o y hc
  refine ⟨by rw [e]; exact R.laid.ext rdx, BelowP.refl _ _, by rw [h2]; exact R.base, R.size, R.inj, fun k c h => ?_, fun k c h => ?_, fun t => ?_, fun k kk d v h => ?_, R.mp.2.1, R.mp.2.2⟩
  · rw [e]
    have hb := R.blk k c h
    refine hb.ext rdx (Nat.le_refl _) (fun _ _ => rfl) rfl fun l hl => ?_
    rcases hb with ⟨_, hn⟩ | ⟨l2, cur, ee, a1, a2, a3, _⟩
    · rw [hl] at hn; cases hn
    · rw [hl] at a1; cases a1
      exact h1 _ fun eb => a2.2 (eb ▸ hr)
  · rw [e]
    rcases R.fro k c h with h' | ⟨l2, vs2, b1, b2, b3, b4⟩
    · exact .inl h'
    · exact .inr ⟨l2, vs2, b1, b2, b3, fun i hi => ⟨hcell _ _ _ (b4 i hi).1, rdx _ _ (b4 i hi).2⟩⟩
  · rw [e]
    exact (R.slot t).ext rdx (Nat.le_refl _) fun _ _ => rfl
  · rw [e]
    obtain ⟨l, ar, clk, vs, a1, a2, a3, a4, a5, a6, a7⟩ := R.mp.1 k kk d v h
    have hne : l.g ≠ r := fun eb => a2.2 (eb ▸ hr)
    exact ⟨l, ar, clk, vs, a1, a2, by rw [h1 _ hne]; exact a3, a4, a5, a6, fun z hz => rdx _ _ (a7 z hz)⟩

/-! ### The loop -/

/-- Where the loop stands: which keys have come. -/
def ItOk (ar : Array MapEntry) (clk bm r : Nat) (L : List Int) (w : World) : Prop :=
  w.heap[bm]? = some (.map ar clk) ∧ ∃ (seen : Array Nat) (vis : List MapEntry), w.heap[r]? = some (.mapIter (some bm) clk seen clk) ∧ (∀ e ∈ vis, e ∈ ar.toList) ∧ seen.toList = vis.map MapEntry.born ∧ L = vis.map (fun e => keyInt e.key) ∧ L.Nodup

def itLeft (ar : Array MapEntry) (r : Nat) (w : World) : Nat :=
  match w.heap[r]? with
  | some (.mapIter _ _ seen _) => (leftOf ar seen).size
  | _ => 0

theorem nodup_inj {α β : Type} {f : α → β} : ∀ {l : List α}, (l.map f).Nodup → ∀ {x y : α}, x ∈ l → y ∈ l → f x = f y → x = y
  | a :: r, h, x, y, hx, hy, e => by
    obtain ⟨h1, h2⟩ := List.nodup_cons.1 h
    rcases List.mem_cons.1 hx with rfl | hx'
    · rcases List.mem_cons.1 hy with rfl | hy'
      · rfl
      · exact absurd (e ▸ List.mem_map.2 ⟨y, hy', rfl⟩) h1
    · rcases List.mem_cons.1 hy with rfl | hy'
      · exact absurd (e ▸ List.mem_map.2 ⟨x, hx', rfl⟩) h1
      · exact nodup_inj h2 hx' hy' e

theorem hk_range {T : TypeId → Option TI} (hT : ∀ t ti, T t = some ti → tiOf P t = some ti) {Q : Exit → St → Prop} {rid rid1 rid2 bid bid3 xs t34 t35 t36 t37 t38 t39 t11 : Nat} {ty y1 y2 y3 y4 y5 y6 y7 : TypeId} {p1 p2 p3 p4 p5 p6 p7 : String} {e1 e2 e3 e4 e5 e6 e7 : Array Edge} {body : Code}
    {ti : TI} (ht : T ty = some ti) {kt et : TypeId} {zo : Option Value} (hkind : ti.kind = .map kt et zo)
    {k : Nat} {kk : IntKind} {d : Int → Bool} {v : Int → PV} (hx : s.get xs = .mptr k) (hg : hget s.H k = .mp kk d v)
    (S : Nat → List Int → St) (π : List Nat) (hd : (decide (t34 < s.n ∧ t35 < s.n ∧ t36 < s.n ∧ t37 < s.n ∧ t38 < s.n ∧ t39 < s.n ∧ t11 < s.n ∧ ¬ t36 = t35 ∧ ¬ t37 = t35)) = true)
    (hS : ∀ r L, (S r L).get t35 = .itv r ∧ (S r L).n = s.n)
    (h0 : ∀ r, Le π (S r []) ((({ s with H := hset s.H k .dead } : St).put (some t34) .dead).put (some t35) (.itv r)))
    (step : ∀ r L z, L.Nodup → (∀ y ∈ L, d y = true) → d z = true → z ∉ L → Holds P body (InB bid3 (Thn (fun s' => ∃ π, Le π (S r (L ++ [z])) s') (InB bid Q))) ((((((S r L).put (some t36) .dead).put (some t37) (.p (.bool true))).put (some t38) .dead).put (some t39) (.p (.int kk z))).put (some t11) (.p (.int kk z))))
    (fin : ∀ r L, L.Nodup → (∀ z, d z = true ↔ z ∈ L) → Q .normal (((S r L).put (some t36) .dead).put (some t37) (.p (.bool false)))) :
    Holds P ((Code.region rid #[{ dst := some t34, op := .move (.tmp xs), type := y1, pos := p1, after := e1, guard := none }, { dst := some t35, op := .range ty (.tmp t34), type := y2, pos := p2, after := e2, guard := none }] false).seq
      (Code.block bid (((Code.region rid1 #[{ dst := some t36, op := .next (.tmp t35) false, type := y3, pos := p3, after := e3, guard := none }, { dst := some t37, op := .extract (.tmp t36) 0, type := y4, pos := p4, after := e4, guard := none }] false).seq
        ((Code.cond (.tmp t37) .skip (.exit bid)).seq (Code.block bid3 ((Code.region rid2 #[{ dst := some t38, op := .entry (.tmp t35), type := y5, pos := p5, after := e5, guard := none }, { dst := some t39, op := .extract (.tmp t38) 0, type := y6, pos := p6, after := e6, guard := none }, { dst := some t11, op := .assign (.tmp t39), type := y7, pos := p7, after := e7, guard := none }] false).seq body)))).loop))) Q s := by
  rw [decide_eq_true_eq] at hd
  obtain ⟨d34, d35, d36, d37, d38, d39, d11, n36, n37⟩ := hd
  intro C m a w R hdf
  have hu := (ti_map (hT _ _ ht) hkind).1
  have hk := hget_some hg (by simp)
  have hxe := R.ev (.tmp xs)
  rw [show s.ev (.tmp xs) = .mptr k from hx] at hxe
  generalize hxv : a.eval (.tmp xs) = xv at hxe
  cases hxe with
  | mptr _ _ hkl hp =>
  obtain ⟨l, hml, rfl⟩ := hp
  obtain ⟨l', ar, clk, vs, a1, a2, a3, a4, a5, a6, a7⟩ := R.mp.1 k kk d v hk
  rw [hml] at a1; cases a1
  have hbl : l.g < w.heap.size := (Array.getElem?_eq_some_iff.1 a3).1
  have hkey : ∀ e ∈ ar.toList, e.key = .int kk (keyInt e.key) := fun e he => by
    obtain ⟨z, hz⟩ := a4.1 e he
    rw [hz]; rfl
  have hdk : ∀ e ∈ ar.toList, d (keyInt e.key) = true := fun e he => by
    cases hdd : d (keyInt e.key) with
    | true => rfl
    | false => exact absurd (a5 _ hdd) (mlk_ne ⟨e, he, hkey e he⟩)
  refine wp_seq (wp_region_lit ?_)
  refine wpList_plain rfl fun K1 hK1 => ?_
  unfold Oper.wp
  simp only [execOp, Sem.run_pure, Sem.run_map, Result.andThen_ok, hxv]
  refine hK1 _ _ ?_
  refine wpList_plain rfl fun K2 hK2 => ?_
  unfold Oper.wp
  have hev : (a.put (some t34) (.map (some l.g))).eval (.tmp t34) = .map (some l.g) := by
    have hsz := R.size
    simp [Act.put, Act.eval, hsz, d34]
  have hrun := run_range_map (P := P) w ty kt et l.g ar clk hu a3
  simp only [execOp, Sem.run_bind, Sem.run_pure, Sem.run_map, Result.andThen_ok, hev, hrun]
  refine hK2 _ _ (wpList_nil ?_)
  obtain ⟨r, hr⟩ : ∃ r, r = w.heap.size := ⟨_, rfl⟩
  obtain ⟨w1, hw1⟩ : ∃ w1, w1 = w.alloc (.mapIter (some l.g) clk #[] clk) := ⟨_, rfl⟩
  rw [← hr, ← hw1]
  have hal := MapKept.heap_alloc w (.mapIter (some l.g) clk #[] clk)
  have hr1 : w1.heap[r]? = some (.mapIter (some l.g) clk #[] clk) := by rw [hw1, hr]; exact hal.1
  have hb1 : w1.heap[l.g]? = some (.map ar clk) := by rw [hw1]; exact (hal.2 _ hbl).trans a3
  have hCr : C.B r := R.base r (by omega)
  have hbel1 : Below w.heap.size w w1 := by rw [hw1]; exact (Below.refl _ _).alloc (Nat.le_refl _) _
  have R1 : Rel C m ((({ s with H := hset s.H k .dead } : St).put (some t34) .dead).put (some t35) (.itv r)) ((a.put (some t34) (.map (some l.g))).put (some t35) (.pointer (some ⟨r, 0, none⟩))).tmps w1 :=
    (((R.kill k).later hbel1).put (fun t h => by cases h; exact d34) (.dead _)).put (fun t h => by cases h; exact d35) (.itv r)
  obtain ⟨X, hX⟩ : ∃ X : Nat → Prop, X = fun b => b = l.g ∨ b = r := ⟨_, rfl⟩
  have hXg : X l.g := by rw [hX]; exact .inl rfl
  have hXr : X r := by rw [hX]; exact .inr rfl
  have R2 := R1.hold X (fun b hb => by
    rw [hX] at hb
    rcases hb with rfl | rfl
    · exact ⟨(Array.getElem?_eq_some_iff.1 hb1).1, fun _ _ _ h => by rw [hb1] at h; cases h⟩
    · exact ⟨(Array.getElem?_eq_some_iff.1 hr1).1, fun _ _ _ h => by rw [hr1] at h; cases h⟩) (fun j kk' d' v' l2 h hl2 => by
    rw [St.put_H, St.put_H] at h
    have h2 : j ≠ k ∧ s.H[j]? = some (.mp kk' d' v') := by
      simp only at h
      rw [hset_get] at h
      by_cases e : j = k
      · rw [if_pos ⟨e, hkl⟩] at h; cases h
      · rw [if_neg (by simp [e])] at h; exact ⟨e, h⟩
    rw [hX]
    rintro (e | e)
    · exact h2.1 (R.mp.2.1 _ _ _ _ _ _ _ _ _ _ h2.2 hk hl2 hml e)
    · obtain ⟨l3, ar3, clk3, vs3, b1, b2, b3, _⟩ := R.mp.1 j kk' d' v' h2.2
      rw [hl2] at b1; cases b1
      have := (Array.getElem?_eq_some_iff.1 b3).1
      omega)
  have R3 := R2.weaken (h0 r)
  have hB0 : BelowP C.B C.w0 w1 := R1.below
  show Code.wp P _ _ _ _
  refine wp_block (wp_loop (fun a' w' => ∃ L m', Rel (holdC C X w') m' (S r L) a'.tmps w' ∧ a'.defers = [] ∧ ItOk ar clk l.g r L w' ∧ (∀ y ∈ L, d y = true) ∧ BelowP C.B C.w0 w') (fun _ w' => itLeft ar r w') ⟨[], _, R3, hdf, ⟨hb1, #[], [], hr1, by simp, rfl, rfl, List.nodup_nil⟩, by simp, hB0⟩ ?_)
  rintro a2 w2 ⟨L, m2, RL, hdf2, ⟨hb2, seen, vis, hr2, hvis, hseen, hLv, hLn⟩, hLd, hbel⟩
  have hv35 : a2.eval (.tmp t35) = .pointer (some ⟨r, 0, none⟩) := by
    have h := RL.ev (.tmp t35)
    rw [show (S r L).ev (.tmp t35) = .itv r from (hS r L).1] at h
    generalize a2.eval (.tmp t35) = x at h ⊢
    cases h; rfl
  have hsz := RL.size
  rw [(hS r L).2] at hsz
  have hput : ∀ (a : Act) (t : Nat) (v : Value), a.tmps.size = s.n → t < s.n → (a.put (some t) v).eval (.tmp t) = v := fun a t v h1 h2 => by
    simp [Act.put, Act.eval, h1, h2]
  have hnsz : ∀ (a : Act) (t : Nat) (v : Value), a.tmps.size = s.n → (a.put (some t) v).tmps.size = s.n := fun a t v h1 => by
    simp [Act.put, h1]
  refine wp_seq (wp_region_lit ?_)
  refine wpList_plain rfl fun K3 hK3 => ?_
  unfold Oper.wp
  rcases run_next_at (P := P) w2 y3 r l.g clk clk seen ar clk hr2 hb2 a4.2.2.1 (Nat.le_refl _) with ⟨hz0, hrun2⟩ | ⟨e, he, w3, hal3, hrun2⟩
  · simp only [execOp, Sem.run_bind, Sem.run_pure, Sem.run_map, Result.andThen_ok, hv35, hrun2]
    refine hK3 _ _ ?_
    refine wpList_plain rfl fun K4 hK4 => ?_
    unfold Oper.wp
    simp only [execOp, Sem.run_bind, Sem.run_pure, Sem.run_map, Result.andThen_ok, hput a2 t36 _ hsz d36]
    have hex : (Instr.extract (.tuple #[.bool false]) 0).run P w2 = .ok (.bool false) w2 := rfl
    simp only [hex, Result.andThen_ok]
    refine hK4 _ _ (wpList_nil ?_)
    show Code.wp P _ _ _ _
    refine wp_seq (wp_cond_false (hput _ t37 _ (hnsz _ _ _ hsz) d37) (wp_exit ?_))
    have hall := all_seen ar seen hz0
    simp only [Exit.then, Exit.inBlock, if_true]
    refine ⟨_, m2, fin r L hLn fun z => ⟨fun hz => ?_, hLd z⟩, ((RL.unhold hbel).put (fun t h => by cases h; rw [(hS r L).2]; exact d36) (.dead _)).put (fun t h => by cases h; show t37 < (S r L).n; rw [(hS r L).2]; exact d37) (.p _ _ (.bool false)), hdf2⟩
    obtain ⟨e0, he0, hz0'⟩ := mlk_some (a6 z hz)
    have h1 := hall e0 he0
    rw [Array.contains_iff_mem, ← Array.mem_toList_iff, hseen] at h1
    obtain ⟨e1, he1, hb1'⟩ := List.mem_map.1 h1
    have := nodup_inj a4.2.2.2 (hvis e1 he1) he0 hb1'
    rw [hLv]
    exact List.mem_map.2 ⟨e1, he1, by rw [this, hz0']; rfl⟩
  · obtain ⟨hem, hes⟩ := mem_left he
    simp only [execOp, Sem.run_bind, Sem.run_pure, Sem.run_map, Result.andThen_ok, hv35, hrun2]
    refine hK3 _ _ ?_
    refine wpList_plain rfl fun K4 hK4 => ?_
    unfold Oper.wp
    simp only [execOp, Sem.run_bind, Sem.run_pure, Sem.run_map, Result.andThen_ok, hput a2 t36 _ hsz d36]
    obtain ⟨w4, hw4⟩ : ∃ w4, w4 = Go.ChangeMaps.setBlock w3 r (.mapIter (some l.g) clk (seen.push e.born) clk) := ⟨_, rfl⟩
    rw [← hw4]
    have hex : (Instr.extract (.tuple #[.bool true, e.key, e.val]) 0).run P w4 = .ok (.bool true) w4 := rfl
    simp only [hex, Result.andThen_ok]
    refine hK4 _ _ (wpList_nil ?_)
    show Code.wp P _ _ _ _
    refine wp_seq (wp_cond_true (hput _ t37 _ (hnsz _ _ _ hsz) d37) (wp_skip ?_))
    show Code.wp P _ _ _ _
    have hr3 : w3.heap[r]? = some (.mapIter (some l.g) clk seen clk) := by rcases hal3 with rfl | rfl <;> exact hr2
    have hset := MapKept.heap_set (o' := .mapIter (some l.g) clk (seen.push e.born) clk) hr3
    have h3o : ∀ b, b ≠ r → w4.heap[b]? = w2.heap[b]? := fun b hb => by
      rw [hw4]
      rcases hal3 with rfl | rfl <;> exact hset.2 b hb
    have h3s : w4.heap.size = w2.heap.size := by
      rw [hw4]
      rcases hal3 with rfl | rfl <;> simp [Go.ChangeMaps.setBlock]
    have hr4 : w4.heap[r]? = some (.mapIter (some l.g) clk (seen.push e.born) clk) := by rw [hw4]; exact hset.1
    have hb4 : w4.heap[l.g]? = some (.map ar clk) := (h3o _ (by omega)).trans hb2
    have RT := RL.turn hXr (fun _ _ _ h => by rw [hr2] at h; cases h) h3o h3s
    have hbel4 : BelowP C.B C.w0 w4 := hbel.trans ⟨by rw [hw4]; rcases hal3 with rfl | rfl <;> rfl, by rw [hw4]; rcases hal3 with rfl | rfl <;> rfl, by rw [hw4]; rcases hal3 with rfl | rfl <;> rfl, by rw [h3s]; exact Nat.le_refl _, fun b hb => h3o b fun e => hb (e ▸ hCr), by rw [hw4]; rcases hal3 with rfl | rfl; exact Nat.le_refl _; exact Nat.le_succ _⟩
    refine wp_block (wp_seq (wp_region_lit ?_))
    refine wpList_plain rfl fun K5 hK5 => ?_
    unfold Oper.wp
    have RT2 := (RT.put (d := some t36) (v := .tuple #[.bool true, e.key, e.val]) (x := .dead) (fun t h => by cases h; rw [(hS r L).2]; exact d36) (.dead _)).put (d := some t37) (v := .bool true) (x := .p (.bool true)) (fun t h => by cases h; show t37 < (S r L).n; rw [(hS r L).2]; exact d37) (.p _ _ (.bool true))
    have hsz5 : ((a2.put (some t36) (.tuple #[.bool true, e.key, e.val])).put (some t37) (.bool true)).tmps.size = s.n := hnsz _ _ _ (hnsz _ _ _ hsz)
    generalize ha5 : (a2.put (some t36) (.tuple #[.bool true, e.key, e.val])).put (some t37) (.bool true) = a5 at RT2 hsz5 ⊢
    have hdf5 : a5.defers = [] := by rw [← ha5]; exact hdf2
    have hv5 : a5.eval (.tmp t35) = .pointer (some ⟨r, 0, none⟩) := by
      have h := RT2.ev (.tmp t35)
      have e35 : (((S r L).put (some t36) .dead).put (some t37) (.p (.bool true))).ev (.tmp t35) = .itv r := by
        show lk _ t35 = _
        simp only [St.put, lk, show (t37 == t35) = false by simpa using n37, show (t36 == t35) = false by simpa using n36, cond_false]
        exact (hS r L).1
      rw [e35] at h
      generalize a5.eval (.tmp t35) = x at h ⊢
      cases h; rfl
    have hen := run_entry_at (P := P) w4 r l.g clk seen ar clk e hr4 hb4 hem a4.2.2.2
    simp only [execOp, Sem.run_bind, Sem.run_pure, Sem.run_map, Result.andThen_ok, hv5, hen]
    refine hK5 _ _ ?_
    refine wpList_plain rfl fun K6 hK6 => ?_
    unfold Oper.wp
    simp only [execOp, Sem.run_bind, Sem.run_pure, Sem.run_map, Result.andThen_ok, hput a5 t38 _ hsz5 d38]
    have hex2 : (Instr.extract (.tuple #[e.key, e.val]) 0).run P w4 = .ok e.key w4 := rfl
    simp only [hex2, Result.andThen_ok]
    refine hK6 _ _ ?_
    refine wpList_plain rfl fun K7 hK7 => ?_
    unfold Oper.wp
    simp only [execOp, Sem.run_bind, Sem.run_pure, Sem.run_map, Result.andThen_ok, hput _ t39 _ (hnsz _ _ _ hsz5) d39]
    refine hK7 _ _ (wpList_nil ?_)
    show Code.wp P _ _ _ _
    have hkz := hkey e hem
    generalize hzz : keyInt e.key = z at hkz
    have hzL : z ∉ L := fun hz => by
      rw [hLv] at hz
      obtain ⟨e1, he1, h1⟩ := List.mem_map.1 hz
      have h2 : e1 = e := nodup_inj a4.2.1 (hvis e1 he1) hem (by rw [hkey e1 (hvis e1 he1), h1, hkz])
      rw [h2] at he1
      have h3 : seen.contains e.born = true := by rw [Array.contains_iff_mem, ← Array.mem_toList_iff, hseen]; exact List.mem_map.2 ⟨e, he1, rfl⟩
      rw [hes] at h3; cases h3
    have hdz : d z = true := by rw [← hzz]; exact hdk e hem
    rw [hkz]
    have RT5 := ((RT2.put (d := some t38) (v := .tuple #[.int kk z, e.val]) (x := .dead) (fun t h => by cases h; show t38 < (S r L).n; rw [(hS r L).2]; exact d38) (.dead _)).put (d := some t39) (v := .int kk z) (x := .p (.int kk z)) (fun t h => by cases h; show t39 < (S r L).n; rw [(hS r L).2]; exact d39) (.p _ _ (.int kk z))).put (d := some t11) (v := .int kk z) (x := .p (.int kk z)) (fun t h => by cases h; show t11 < (S r L).n; rw [(hS r L).2]; exact d11) (.p _ _ (.int kk z))
    refine wp_mono (step r L z hLn hLd hdz hzL _ m2 _ w4 RT5 hdf5) fun ex a6 w6 ⟨s6, m6, q1, q2, q3⟩ => ?_
    have hBr : ¬ (holdC C X w4).B r := fun h => h.2 hXr
    have hBg : ¬ (holdC C X w4).B l.g := fun h => h.2 hXg
    have hr6 : w6.heap[r]? = some (.mapIter (some l.g) clk (seen.push e.born) clk) := (q2.below.block r hBr).trans hr4
    have hb6 : w6.heap[l.g]? = some (.map ar clk) := (q2.below.block l.g hBg).trans hb4
    have nrm : (∃ π, Le π (S r (L ++ [z])) s6) → (∃ L m', Rel (holdC C X w6) m' (S r L) a6.tmps w6 ∧ a6.defers = [] ∧ ItOk ar clk l.g r L w6 ∧ (∀ y ∈ L, d y = true) ∧ BelowP C.B C.w0 w6) ∧ itLeft ar r w6 < itLeft ar r w2 := by
      rintro ⟨π', hle⟩
      refine ⟨⟨L ++ [z], _, (q2.weaken hle).anew, q3, ⟨hb6, seen.push e.born, vis ++ [e], hr6, fun x hx => ?_, by rw [Array.toList_push, hseen]; simp, by rw [hLv]; simp [hzz], List.nodup_append.2 ⟨hLn, by simp, fun x hx y hy he => hzL (by rw [List.mem_singleton] at hy; rw [← hy, ← he]; exact hx)⟩⟩, fun y hy => ?_, hbel4.trans (q2.below.monoB fun _ h => h.1)⟩, ?_⟩
      · rcases List.mem_append.1 hx with hx | hx
        · exact hvis x hx
        · rw [List.mem_singleton] at hx; rw [hx]; exact hem
      · rcases List.mem_append.1 hy with hy | hy
        · exact hLd y hy
        · rw [List.mem_singleton] at hy; rw [hy]; exact hdz
      · simp only [itLeft, hr6, hr2]
        exact left_shrinks ar seen e he
    have oth : Q ex s6 → ∃ s' m', Q ex s' ∧ Rel C m' s' a6.tmps w6 ∧ a6.defers = [] := fun h => ⟨s6, m6, h, q2.unhold hbel4, q3⟩
    cases ex with
    | normal => exact nrm q1
    | exit j =>
      simp only [Exit.then, Exit.inBlock, InB] at q1 ⊢
      by_cases hj : j = bid3
      · rw [if_pos hj] at q1 ⊢; exact nrm q1
      · rw [if_neg hj] at q1 ⊢
        simp only [Thn, InB] at q1
        by_cases hj2 : j = bid
        · simp only [hj2, if_true] at q1 ⊢
          exact ⟨s6, m6, q1, q2.unhold hbel4, q3⟩
        · simp only [hj2, if_false] at q1 ⊢
          exact oth q1
    | goto g => exact oth q1
    | ret => exact oth q1
    | panic c => exact oth q1
    | outgrown => exact oth q1
end
end Go.Pv

/-
  All of Sylow's subgroups, as the program has them. Conditions: none.
-/
set_option linter.all false
namespace Go.Proofs.YtjikchbmkodgfaaDoor
open Go.Pv

def sql (SL : List Nat) : List (List Int) := SL.map stl
theorem sql_len (SL : List Nat) : (sql SL).length = SL.length := by simp [sql]
theorem sql_get {SL : List Nat} {i : Nat} (hi : i < SL.length) : (sql SL).getD i [] = stl (SL.getD i 0) := by
  simp [sql, List.getD, List.getElem?_eq_getElem hi]
def slz (L : List Int) : List (List Int) := L.map fun z => stl z.toNat
theorem slz_snoc (L : List Int) (z : Int) : slz (L ++ [z]) = slz L ++ [stl z.toNat] := by simp [slz]
theorem slz_len (L : List Int) : (slz L).length = L.length := by simp [slz]
def pvi : PV → Int
  | .int _ x => x
  | _ => 0
theorem pvi_il (v : List Int) : (il v).map pvi = v := by
  unfold il
  rw [List.map_map]
  exact (List.map_congr_left fun _ _ => rfl).trans (List.map_id v)
def cfL : PV → PV → Int
  | .list a, .list b => cmpL (a.map pvi) (b.map pvi)
  | _, _ => 0
theorem cfL_il (v w : List Int) : cfL (.list (il v)) (.list (il w)) = cmpL v w := by
  show cmpL ((il v).map pvi) ((il w).map pvi) = _
  rw [pvi_il, pvi_il]
theorem mem_ll {x : PV} {ls : List (List Int)} (h : x ∈ ll ls) : ∃ v ∈ ls, x = .list (il v) := by
  obtain ⟨v, hv, rfl⟩ := List.mem_map.1 h
  exact ⟨v, hv, rfl⟩

theorem sortL_c {xs ys : List (List Int)} (hne : xs ≠ []) (hl : xs.length ≤ 1000000) (hr : ∀ v ∈ xs, v.length ≤ 1000000) (hperm : xs.Perm ys) (hs : ys.Pairwise fun v w => cmpL v w < 0) :
    FnM Tryd.prog 91 [.sl 0 0 (ll xs).length, .p (.fn 92 [])] [.own (opl (ll xs))] (.p (.tup [])) [.own (opl (ll ys))] :=
  sort_m Go.Proofs.Tryd.sortL (ll xs) (ll ys) cfL (fun h => hne (by cases xs with
      | nil => rfl
      | cons a r => cases h)) (fun x hx => by obtain ⟨v, _, rfl⟩ := mem_ll hx; rfl)
    (fun x hx => by obtain ⟨v, _, rfl⟩ := mem_ll hx; rw [cfL_il, cmpL_self]; decide)
    (fun x hx y hy z hz h1 h2 => by
      obtain ⟨u, _, rfl⟩ := mem_ll hx; obtain ⟨v, _, rfl⟩ := mem_ll hy; obtain ⟨w, _, rfl⟩ := mem_ll hz
      rw [cfL_il] at *; exact cmpL_trans _ _ _ h1 h2)
    (fun x hx y hy z hz h1 h2 => by
      obtain ⟨u, _, rfl⟩ := mem_ll hx; obtain ⟨v, _, rfl⟩ := mem_ll hy; obtain ⟨w, _, rfl⟩ := mem_ll hz
      rw [cfL_il] at *; exact cmpL_ntrans _ _ _ h1 h2)
    (fun x hx y hy h1 h2 => by
      obtain ⟨u, _, rfl⟩ := mem_ll hx; obtain ⟨v, _, rfl⟩ := mem_ll hy
      rw [cfL_il] at *; rw [cmpL_tot _ _ h1 h2])
    (fun x hx y hy => by
      obtain ⟨u, hu, rfl⟩ := mem_ll hx; obtain ⟨v, hv, rfl⟩ := mem_ll hy
      rw [cfL_il]; have h1 := hr u hu; have h2 := hr v hv; exact compareL_c u v (by omega) (by omega))
    (hperm.map _) (by
      unfold ll
      rw [List.pairwise_map]
      exact hs.imp fun {x y} hxy h2 => by
        rw [cfL_il] at h2
        have := cmpL_trans _ _ _ hxy h2
        rw [cmpL_self] at this; exact absurd this (by decide)) (by rw [ll_length]; omega)

section
variable {n e P : Nat} {m : List Int}
/-- Keys that have been laid. -/
def kys (n : Nat) (f : Nat → Nat → Nat) (e : Nat) (s : Nat → Bool) (a : Nat) : List Int := (List.range a).map fun b => ((bo n (shf n f e s b) : Nat) : Int)
theorem kys_succ (n : Nat) (f : Nat → Nat → Nat) (e : Nat) (s : Nat → Bool) (a : Nat) : kys n f e s (a + 1) = kys n f e s a ++ [((bo n (shf n f e s a) : Nat) : Int)] := by
  simp [kys, List.range_succ]

set_option maxHeartbeats 4000000 in
set_option maxRecDepth 100000 in
theorem syAll_ok (h : GT n m n e) (hP : isPr P) {K : Nat} (hK1 : fst' (swc n (op m n) e P (swq n (op m n) e P K)) n = none) (hK2 : ∀ k, k < K → ¬ fst' (swc n (op m n) e P (swq n (op m n) e P k)) n = none)
    {SL : List Nat} (hS : SyS n (op m n) e (swq n (op m n) e P K) SL) : FnC Tryd.prog 45 [gp n m, .int .i64 P] (.tup [.list (ll (sql SL)), fl (0, 0)]) := by
  have G := h.2.2
  have hb := h.2.1.big
  have hml := h.2.1.len
  have hsq := sq_le hb
  have hone := syOne_c h hP hK1 hK2
  generalize swq n (op m n) e P K = s at hS hone
  have hKl : ∀ a, (kys n (op m n) e s a).length = a := fun a => by simp [kys]
  refine fnc_of tab_ok Tryd.func45 rfl (by kernel_rfl) (by rw [Tryd.ntmps45]; exact Nat.le_add_left 2 _) ?_; rw [Tryd.ntmps45]
  refine qm ?_
  refine hk_region fun K hK => runs_eval tab_ok ?_
  simp only [ev0, evA, evB, evP, fl, gp, tab, simprocAttr, reduceCtorEq, reduceIte]
  refine fin_run ?_ (hK _ ?_) <;> clear hK <;> clear K
  · (first | exact trivial | omega | (simp only [In64] at *; omega) | (simp [In64] at *; omega) | (simp_all; done) | skip)
  refine qa (qm (qm ?_))
  refine hk_region fun K hK => runs_eval tab_ok ?_
  simp only [ev0, evA, evB, evP, fl, gp, tab, simprocAttr, reduceCtorEq, reduceIte]
  refine fin_stop trivial (runs_call (slook_c n m P (by omega)) rfl rfl rfl (by simp only [dstOk, Nat.reduceLT]) (by repeat (first | exact trivial | constructor)) (runs_eval tab_ok ?_))
  simp only [ev0, evA, evB, evP, fl, gp, tab, simprocAttr, reduceCtorEq, reduceIte, syf_of h hP]
  refine fin_run ?_ (hK _ ?_) <;> clear hK <;> clear K
  · (first | exact trivial | omega | (simp only [In64] at *; omega) | (simp [In64] at *; omega) | (simp_all; done) | skip)
  refine qa (qm ?_)
  refine hk_region fun K hK => runs_eval tab_ok ?_
  simp only [ev0, evA, evB, evP, fl, gp, tab, simprocAttr, reduceCtorEq, reduceIte]
  refine fin_run ?_ (hK _ ?_) <;> clear hK <;> clear K
  · (first | exact trivial | omega | (simp only [In64] at *; omega) | (simp [In64] at *; omega) | (simp_all; done) | skip)
  refine qa ?_
  refine hk_cond rfl (fun hC1 => ?_) (fun hC1 => ?_)
  · cases hC1
  · (try simp only [nhs] at hC1)
    refine qh (qa (qm ?_))
    refine hk_region fun K hK => runs_eval tab_ok ?_
    simp only [ev0, evA, evB, evP, fl, gp, tab, simprocAttr, reduceCtorEq, reduceIte]
    refine fin_stop trivial (runs_call (hone) rfl rfl rfl (by simp only [dstOk, Nat.reduceLT]) (by repeat (first | exact trivial | constructor)) (runs_eval tab_ok ?_))
    simp only [ev0, evA, evB, evP, fl, gp, tab, simprocAttr, reduceCtorEq, reduceIte]
    refine fin_run ?_ (hK _ ?_) <;> clear hK <;> clear K
    · (first | exact trivial | omega | (simp only [In64] at *; omega) | (simp [In64] at *; omega) | (simp_all; done) | skip)
    refine qa (qm ?_)
    refine hk_region fun K hK => runs_eval tab_ok ?_
    simp only [ev0, evA, evB, evP, fl, gp, tab, simprocAttr, reduceCtorEq, reduceIte]
    refine fin_run ?_ (hK _ ?_) <;> clear hK <;> clear K
    · (first | exact trivial | omega | (simp only [In64] at *; omega) | (simp [In64] at *; omega) | (simp_all; done) | skip)
    refine qa (qm (qm ?_))
    refine hk_region fun K hK => runs_eval tab_ok ?_
    simp only [ev0, evA, evB, evP, fl, gp, tab, simprocAttr, reduceCtorEq, reduceIte]
    refine fin_run ?_ (hK _ ?_) <;> clear hK <;> clear K
    · (first | exact trivial | omega | (simp only [In64] at *; omega) | (simp [In64] at *; omega) | (simp_all; done) | skip)
    refine qa (ql ?_)
    refine hk_loop (ι := Nat) (fun a => ⟨49, [(2, .ptr 0 0), (5, .ptr 1 0), (7, .p (.int .u64 (bo n s))), (8, .mptr 2), (24, .p (.int .i64 n)), (25, .p (.int .i64 a))], [.own [.p (.int .i64 n), .p (.list (il m))], .own [.p (.int .i64 0), .p (.int .i64 0)], .mp .u64 (mpd (kys n (op m n) e s a)) (mpv (kys n (op m n) e s a) tru)]⟩) (fun a => a ≤ n) (fun a => n - a) 0 (Nat.zero_le _) [0, 1, 3] (by rw [show kys n (op m n) e s 0 = [] from rfl, ← mpd_nil, ← mpv_nil]; simp only [leq, leA, ev0, evA, evB, evP, fl, gp, tab, simprocAttr, reduceCtorEq, reduceIte] <;> first | trivial | exact ⟨rfl, rfl⟩) fun a ha => ?_
    refine qm ?_
    refine hk_region fun K hK => runs_eval tab_ok ?_
    simp only [ev0, evA, evB, evP, fl, gp, tab, simprocAttr, reduceCtorEq, reduceIte]
    refine fin_run trivial (hK _ ?_) <;> clear hK <;> clear K
    refine qa (qm ?_)
    refine hk_cond rfl (fun hC2 => ?_) (fun hC2 => ?_)
    · (try simp only [nhs] at hC2)
      have hal : a < n := by omega
      have hd1 := mpd_set (kys n (op m n) e s a) ((bo n (shf n (op m n) e s a) : Nat) : Int)
      have hv1 := mpv_set (kys n (op m n) e s a) ((bo n (shf n (op m n) e s a) : Nat) : Int) tru
      refine qh (qa (qm (ql (qm ?_))))
      refine hk_region fun K hK => runs_eval tab_ok ?_
      simp only [ev0, evA, evB, evP, fl, gp, tab, simprocAttr, reduceCtorEq, reduceIte]
      refine fin_run trivial (hK _ ?_) <;> clear hK <;> clear K
      refine qa ?_
      refine hk_region fun K hK => runs_eval tab_ok ?_
      simp only [ev0, evA, evB, evP, fl, gp, tab, simprocAttr, reduceCtorEq, reduceIte]
      refine fin_stop trivial (runs_call (moved_s h s hal) rfl rfl rfl (by simp only [dstOk, Nat.reduceLT]) (by repeat (first | exact trivial | constructor)) (runs_eval tab_ok ?_))
      simp only [ev0, evA, evB, evP, fl, gp, tab, simprocAttr, reduceCtorEq, reduceIte]
      refine fin_run ?_ (hK _ ?_) <;> clear hK <;> clear K
      · (first | exact trivial | omega | (simp only [In64] at *; omega) | (simp [In64] at *; omega) | (simp_all; done) | skip)
      refine qd (qa ?_)
      refine hk_region fun K hK => runs_eval tab_ok ?_
      simp only [ev0, evA, evB, evP, fl, gp, tab, simprocAttr, reduceCtorEq, reduceIte]
      refine fin_run ?_ (hK _ ?_) <;> clear hK <;> clear K
      · (first | exact trivial | omega | (simp only [In64] at *; omega) | (simp [In64] at *; omega) | (simp_all; done) | skip)
      refine qa ?_
      refine ⟨a + 1, [0, 1, 2], by omega, by omega, ?_⟩
      rw [kys_succ]
      simp only [← hd1, ← hv1]
      simp only [leq, leA, ev0, evA, evB, evP, fl, gp, tab, simprocAttr, reduceCtorEq, reduceIte] <;> first | trivial | omega | exact ⟨rfl, rfl⟩
    · (try simp only [nhs] at hC2)
      have han : a = n := by omega
      subst han
      refine qj (qc (qc (qf (qa (qm ?_)))))
      refine hk_region fun K hK => runs_eval tab_ok ?_
      simp only [ev0, evA, evB, evP, fl, gp, tab, simprocAttr, reduceCtorEq, reduceIte]
      refine fin_run trivial (hK _ ?_) <;> clear hK <;> clear K
      refine qa (qm ?_)
      refine hk_own0 10 rfl ?_
      refine hk_range tab_ok rfl rfl rfl rfl (fun r L => ⟨49, [(5, .ptr 0 0), (10, .sl 1 0 (slz L).length), (35, .itv r)], [.own [.p (.int .i64 0), .p (.int .i64 0)], .own (opl (ll (slz L)))]⟩) [1, 3] rfl (fun _ _ => ⟨rfl, rfl⟩) (fun r => ?_) (fun r L z hLn hLd hz hzL => ?_) fun r L hLn hall => ?_
      · simp only [leq, leA, ev0, evA, evB, evP, fl, gp, tab, simprocAttr, reduceCtorEq, reduceIte] <;> trivial
      · obtain ⟨b, hb2, hzb⟩ := List.mem_map.1 (of_decide_eq_true hz)
        subst hzb
        have hL1 : (slz L).length ≤ a := by
          rw [slz_len, ← hKl a]
          exact List.Nodup.length_le_of_subset hLn fun y hy => of_decide_eq_true (hLd y hy)
        refine hk_region fun K hK => runs_eval tab_ok ?_
        simp only [ev0, evA, evB, evP, fl, gp, tab, simprocAttr, reduceCtorEq, reduceIte, ll_takeL, oll_ok, ll_snoc]
        refine fin_stop trivial (runs_call (list_s (bo a (shf a (op m a) e s b)) (bo_lt64 hb _)) rfl rfl rfl (by simp only [dstOk, Nat.reduceLT]) (by repeat (first | exact trivial | constructor)) (runs_eval tab_ok ?_))
        simp only [ev0, evA, evB, evP, fl, gp, tab, simprocAttr, reduceCtorEq, reduceIte, ll_takeL, oll_ok, ll_snoc]
        refine fin_run ?_ (hK _ ?_) <;> clear hK <;> clear K
        · first | (simp [cellOk, PV.one]; done) | (simp [cellOk, PV.one]; omega)
        refine qd (qa ?_)
        refine ⟨[0, 2], ?_⟩
        rw [slz_snoc, Int.toNat_natCast]
        simp only [leq, leA, ev0, evA, evB, evP, fl, gp, tab, simprocAttr, reduceCtorEq, reduceIte, ll_takeL, ll_snoc, ll_takeS] <;> first | trivial | omega | (simp [ll]; done)
      · have hmem : ∀ z : Int, z ∈ L ↔ ∃ x : Nat, x ∈ SL ∧ z = (x : Int) := fun z => by
          rw [← hall z]
          constructor
          · intro hz
            obtain ⟨b, hb2, hzb⟩ := List.mem_map.1 (of_decide_eq_true hz)
            exact ⟨_, (hS.all _).2 ⟨b, List.mem_range.1 hb2, rfl⟩, hzb.symm⟩
          · rintro ⟨x, hx, rfl⟩
            obtain ⟨b, hb2, rfl⟩ := (hS.all _).1 hx
            exact decide_eq_true (List.mem_map.2 ⟨b, List.mem_range.2 hb2, rfl⟩)
        have hp1 : (L.map Int.toNat).Perm SL := (List.perm_ext_iff_of_nodup (nodup_map hLn fun x hx y hy hxy => by
          obtain ⟨x', _, rfl⟩ := (hmem x).1 hx
          obtain ⟨y', _, rfl⟩ := (hmem y).1 hy
          rw [Int.toNat_natCast, Int.toNat_natCast] at hxy
          rw [hxy]) hS.nodup).2 fun x => by
            rw [List.mem_map]
            constructor
            · rintro ⟨z, hz, rfl⟩
              obtain ⟨x', hx', rfl⟩ := (hmem z).1 hz
              rwa [Int.toNat_natCast]
            · exact fun hx => ⟨(x : Int), (hmem _).2 ⟨x, hx, rfl⟩, Int.toNat_natCast x⟩
        have hperm : (slz L).Perm (sql SL) := by
          have := hp1.map stl
          rw [List.map_map] at this
          exact this
        have hlen2 := hperm.length_eq
        have hSl := hS.len
        have hSp := hS.pos G
        have hsl := sql_len SL
        have hsort := sortL_c (xs := slz L) (ys := sql SL) (fun hh => by rw [hh] at hlen2; simp at hlen2; omega) (by omega) (fun v hv => by
          obtain ⟨x, hx, rfl⟩ := List.mem_map.1 (hperm.mem_iff.1 hv)
          obtain ⟨b, _, rfl⟩ := (hS.all _).1 hx
          rw [stl_bo hb]
          have := thl_le a (shf a (op m a) e s b)
          omega) hperm (by
          unfold sql
          rw [List.pairwise_map]
          exact hS.rise)
        rw [ll_length] at hsort
        refine qa (qm ?_)
        refine hk_region fun K hK => runs_eval tab_ok ?_
        simp only [ev0, evA, evB, evP, fl, gp, tab, simprocAttr, reduceCtorEq, reduceIte]
        refine fin_stop ?_ (runs_callM [1] (hsort) rfl rfl ?_ (by simp only [leA, ev0, evA, evB, evP, fl, gp, tab, simprocAttr, reduceCtorEq, reduceIte]; first | trivial | (simp only [ll_takeL]; first | trivial | (repeat constructor; done)) | (repeat constructor)) (by decide) (by first | rfl | (simp only [List.length_cons, List.length_nil, List.length_append]; decide)) (by first | rfl | (simp only [scM, opl_sc, List.all_cons, List.all_nil, List.length_cons, List.length_nil]; first | rfl | decide) | (simp [scM, scA, sc1, mpKeep, notAnc]; done)) (by simp only [dstOk, Nat.reduceLT]) (runs_eval tab_ok ?_))
        · first | (simp only [ll_takeL]; done) | (simp only [leA, ev0, evA, evB, evP, fl, gp, tab, simprocAttr, reduceCtorEq, reduceIte, ll_takeL]; first | trivial | (repeat constructor)) | (first | exact trivial | omega | (simp only [In64] at *; omega) | (simp [In64] at *; omega) | (simp_all; done) | skip)
        · (simp only [argsM, argM1, peekG, peekS, scA, sc1, ren, ren1, List.map_cons, List.map_nil, List.append_nil, List.cons_append, List.nil_append, enA, ev0, evA, evB, evP, fl, gp, tab, simprocAttr, reduceCtorEq, reduceIte]; try trivial)
        simp only [putM, hset, List.range', Blk.ren, ren, ren1, List.map_cons, List.map_nil, List.cons_append, List.nil_append, List.append_nil, List.length_cons, List.length_nil, ev0, evA, evB, evP, fl, gp, tab, simprocAttr, reduceCtorEq, reduceIte]
        refine fin_run trivial (hK _ ?_) <;> clear hK <;> clear K
        refine qa (qm ?_)
        rw [hlen2, ← ll_length (sql SL)]
        refine hk_sealp 10 1 (ll_all _) rfl rfl ?_
        refine hk_region fun K hK => runs_eval tab_ok ?_
        simp only [ev0, evA, evB, evP, fl, gp, tab, simprocAttr, reduceCtorEq, reduceIte]
        refine fin_run ?_ (hK _ ?_) <;> clear hK <;> clear K
        · (first | exact trivial | omega | (simp only [In64] at *; omega) | (simp [In64] at *; omega) | (simp_all; done) | skip)
        refine qa (qk ?_)
        simp only [Tryd.results45, enA, ev0, evA, evB, evP, fl, gp, tab, simprocAttr, reduceCtorEq, reduceIte]
        all_goals ((first | exact rfl | exact ⟨rfl, rfl⟩ | exact ⟨rfl, rfl, rfl⟩ | exact ⟨trivial, rfl⟩ | exact ⟨Nat.le_refl _, rfl⟩ | trivial | (simp; done)))
end
end Go.Proofs.YtjikchbmkodgfaaDoor

/-
  What all of Sylow's subgroups have; the document's example; numbers of a power of p. Conditions: none.
-/
set_option linter.all false
namespace Go.Proofs.YtjikchbmkodgfaaDoor
open Go.Pv

section
variable {n e P : Nat} {m : List Int}
/-- What the sets have, up to a place. -/
def cor (SL : List Nat) (i y : Nat) : Bool := (SL.getD 0 0).testBit y && decide (∀ j, j < i → (SL.getD j 0).testBit y = true)
theorem cor_succ (SL : List Nat) (i y : Nat) : cor SL (i + 1) y = (cor SL i y && (SL.getD i 0).testBit y) := by
  unfold cor
  rw [Bool.and_assoc]
  congr 1
  rw [Bool.eq_iff_iff, Bool.and_eq_true, decide_eq_true_eq, decide_eq_true_eq]
  constructor
  · exact fun h => ⟨fun b hb => h b (by omega), h i (by omega)⟩
  · rintro ⟨h1, h2⟩ b hb
    by_cases hba : b = i
    · rw [hba]; exact h2
    · exact h1 b (by omega)
theorem getD_memK {L : List Nat} {j : Nat} (hj : j < L.length) : L.getD j 0 ∈ L := by
  rw [List.getD_eq_getElem?_getD, List.getElem?_eq_getElem hj]; exact List.getElem_mem hj
theorem SyS.at {f : Nat → Nat → Nat} {s : Nat → Bool} {SL : List Nat} (h : SyS n f e s SL) (hn : n ≤ 60) {i : Nat} (hi : i < SL.length) : ∃ a, a < n ∧ SL.getD i 0 = bo n (shf n f e s a) ∧ (sql SL).getD i [] = thl n (shf n f e s a) := by
  obtain ⟨a, h1, h2⟩ := (h.all _).1 (getD_memK hi)
  exact ⟨a, h1, h2, by rw [sql_get hi, h2, stl_bo hn]⟩
theorem SyS.idx {f : Nat → Nat → Nat} {s : Nat → Bool} {SL : List Nat} (h : SyS n f e s SL) (hn : n ≤ 60) {a : Nat} (ha : a < n) : ∃ i, i < SL.length ∧ SL.getD i 0 = bo n (shf n f e s a) ∧ (sql SL).getD i [] = thl n (shf n f e s a) := by
  obtain ⟨i, h1, h2⟩ := List.getElem_of_mem ((h.all _).2 ⟨a, ha, rfl⟩)
  have h3 : SL.getD i 0 = bo n (shf n f e s a) := by rw [List.getD_eq_getElem?_getD, List.getElem?_eq_getElem h1, Option.getD_some, h2]
  exact ⟨i, h1, h3, by rw [sql_get h1, h3, stl_bo hn]⟩
theorem SyS.cor {f : Nat → Nat → Nat} {s : Nat → Bool} {SL : List Nat} (h : SyS n f e s SL) (G : Grp n f e) (hn : n ≤ 60) {y : Nat} (hy : y < n) : Go.Proofs.YtjikchbmkodgfaaDoor.cor SL SL.length y = crp n f e s y := by
  have hp := h.pos G
  have hb : ∀ p : Nat → Bool, (bo n p).testBit y = p y := fun p => by rw [bo_bit]; simp [hy]
  rw [Bool.eq_iff_iff, G.crp_back hy]
  unfold Go.Proofs.YtjikchbmkodgfaaDoor.cor
  rw [Bool.and_eq_true, decide_eq_true_eq]
  constructor
  · rintro ⟨_, h2⟩
    have h3 : ∀ a, a < n → shf n f e s a y = true := fun a ha => by
      obtain ⟨i, i1, i2, _⟩ := h.idx hn ha
      have := h2 i i1
      rwa [i2, hb] at this
    refine ⟨?_, h3⟩
    have := h3 e G.el
    rw [G.shf_back G.el hy, G.iv_one, G.cjr_e hy] at this
    exact this
  · rintro ⟨_, h2⟩
    have h3 : ∀ i, i < SL.length → (SL.getD i 0).testBit y = true := fun i hi => by
      obtain ⟨a, a1, a2, _⟩ := h.at hn hi
      rw [a2, hb]; exact h2 a a1
    exact ⟨h3 0 hp, h3⟩

theorem syCore_ok (h : GT n m n e) {s : Nat → Bool} {SL : List Nat} (hS : SyS n (op m n) e s SL) (hA : FnC Tryd.prog 45 [gp n m, .int .i64 P] (.tup [.list (ll (sql SL)), fl (0, 0)])) : FnC Tryd.prog 47 [gp n m, .int .i64 P] (.tup [.list (il (thl n (crp n (op m n) e s))), fl (0, 0)]) := by
  have G := h.2.2
  have hb := h.2.1.big
  have hpos := hS.pos G
  have hsl := sql_len SL
  have hSl := hS.len
  obtain ⟨b0, hb0, hv0, hr0⟩ := hS.at hb hpos
  have hg0 := ll_get (ls := sql SL) (i := 0) (by omega)
  rw [hr0] at hg0
  have hl0 := thl_le n (shf n (op m n) e s b0)
  have h0 : bo n (shf n (op m n) e s b0) = bo n (cor SL 0) := bo_congr fun y hy => by
    unfold cor
    rw [hv0, bo_bit]; simp [hy]
  refine fnc_of tab_ok Tryd.func47 rfl (by kernel_rfl) (by rw [Tryd.ntmps47]; exact Nat.le_add_left 2 _) ?_; rw [Tryd.ntmps47]
  refine qm ?_
  refine hk_region fun K hK => runs_eval tab_ok ?_
  simp only [ev0, evA, evB, evP, fl, gp, tab, simprocAttr, reduceCtorEq, reduceIte]
  refine fin_run ?_ (hK _ ?_) <;> clear hK <;> clear K
  · (first | exact trivial | omega | (simp only [In64] at *; omega) | (simp [In64] at *; omega) | (simp_all; done) | skip)
  refine qa (qm ?_)
  refine hk_region fun K hK => runs_eval tab_ok ?_
  simp only [ev0, evA, evB, evP, fl, gp, tab, simprocAttr, reduceCtorEq, reduceIte]
  refine fin_stop trivial (runs_call (hA) rfl rfl rfl (by simp only [dstOk, Nat.reduceLT]) (by repeat (first | exact trivial | constructor)) (runs_eval tab_ok ?_))
  simp only [ev0, evA, evB, evP, fl, gp, tab, simprocAttr, reduceCtorEq, reduceIte]
  refine fin_run ?_ (hK _ ?_) <;> clear hK <;> clear K
  · (first | exact trivial | omega | (simp only [In64] at *; omega) | (simp [In64] at *; omega) | (simp_all; done) | skip)
  refine qa (qm (qm ?_))
  refine hk_region fun K hK => runs_eval tab_ok ?_
  simp only [ev0, evA, evB, evP, fl, gp, tab, simprocAttr, reduceCtorEq, reduceIte]
  refine fin_run ?_ (hK _ ?_) <;> clear hK <;> clear K
  · (first | exact trivial | omega | (simp only [In64] at *; omega) | (simp [In64] at *; omega) | (simp_all; done) | skip)
  refine qa ?_
  refine hk_cond rfl (fun hC1 => ?_) (fun hC1 => ?_)
  · cases hC1
  · (try simp only [nhs] at hC1)
    refine qh (qa (qm ?_))
    refine hk_region fun K hK => runs_eval tab_ok ?_
    simp only [ev0, evA, evB, evP, fl, gp, tab, simprocAttr, reduceCtorEq, reduceIte, hg0, ll_length, hsl]
    refine fin_stop ?_ (runs_call (of_s (thl n (shf n (op m n) e s b0)) (by omega) (thl_rng hb _)) rfl rfl rfl (by simp only [dstOk, Nat.reduceLT]) (by repeat (first | exact trivial | constructor)) (runs_eval tab_ok ?_))
    · omega
    simp only [ev0, evA, evB, evP, fl, gp, tab, simprocAttr, reduceCtorEq, reduceIte, msk_thl, hg0, ll_length, hsl]
    refine fin_run ?_ (hK _ ?_) <;> clear hK <;> clear K
    · (first | exact trivial | omega | (simp only [In64] at *; omega) | (simp [In64] at *; omega) | (simp_all; done) | skip)
    refine qa (qm (qm ?_))
    refine hk_region fun K hK => runs_eval tab_ok ?_
    simp only [ev0, evA, evB, evP, fl, gp, tab, simprocAttr, reduceCtorEq, reduceIte, ll_length, hsl]
    refine fin_run trivial (hK _ ?_) <;> clear hK <;> clear K
    refine qa (ql ?_)
    refine hk_loop (ι := Nat) (fun i => ⟨39, [(5, .ptr 0 0), (7, .ptr 1 0), (8, .p (.int .u64 (bo n (cor SL i)))), (25, .p (.list (ll (sql SL)))), (26, .p (.int .i64 SL.length)), (27, .p (.int .i64 i))], [.own [.p (.int .i64 0), .p (.int .i64 0)], .own [.p (.int .i64 0), .p (.int .i64 0)]]⟩) (fun i => i ≤ SL.length) (fun i => SL.length - i) 0 (Nat.zero_le _) [1, 2] (by rw [← h0]; simp only [leq, leA, ev0, evA, evB, evP, fl, gp, tab, simprocAttr, reduceCtorEq, reduceIte] <;> trivial) fun i hi => ?_
    refine qm ?_
    refine hk_region fun K hK => runs_eval tab_ok ?_
    simp only [ev0, evA, evB, evP, fl, gp, tab, simprocAttr, reduceCtorEq, reduceIte]
    refine fin_run trivial (hK _ ?_) <;> clear hK <;> clear K
    refine qa (qm ?_)
    refine hk_cond rfl (fun hC2 => ?_) (fun hC2 => ?_)
    · (try simp only [nhs] at hC2)
      have hlt : i < SL.length := by omega
      obtain ⟨b, hbl, hv, hr⟩ := hS.at hb hlt
      have hg := ll_get (ls := sql SL) (i := i) (by omega)
      rw [hr] at hg
      have hl := thl_le n (shf n (op m n) e s b)
      have hb1 := bo_lt64 hb (cor SL i)
      have hb2 := bo_lt64 hb (shf n (op m n) e s b)
      have hs1 : bo n (cor SL (i + 1)) = bo n fun y => cor SL i y && shf n (op m n) e s b y := bo_congr fun y hy => by
        rw [cor_succ, hv, bo_bit]; simp [hy]
      refine qh (qa (qm (ql (qm ?_))))
      refine hk_region fun K hK => runs_eval tab_ok ?_
      simp only [ev0, evA, evB, evP, fl, gp, tab, simprocAttr, reduceCtorEq, reduceIte, hg, ll_length, hsl]
      refine fin_run ?_ (hK _ ?_) <;> clear hK <;> clear K
      · (first | exact trivial | omega | (simp only [In64] at *; omega) | (simp [In64] at *; omega) | (simp_all; done) | skip)
      refine qa ?_
      refine hk_region fun K hK => runs_eval tab_ok ?_
      simp only [ev0, evA, evB, evP, fl, gp, tab, simprocAttr, reduceCtorEq, reduceIte]
      refine fin_stop trivial (runs_call (of_s (thl n (shf n (op m n) e s b)) (by omega) (thl_rng hb _)) rfl rfl rfl (by simp only [dstOk, Nat.reduceLT]) (by repeat (first | exact trivial | constructor)) (runs_eval tab_ok ?_))
      simp only [ev0, evA, evB, evP, fl, gp, tab, simprocAttr, reduceCtorEq, reduceIte, msk_thl, bv_and hb1 hb2, bo_and]
      refine fin_run ?_ (hK _ ?_) <;> clear hK <;> clear K
      · (first | exact trivial | omega | (simp only [In64] at *; omega) | (simp [In64] at *; omega) | (simp_all; done) | skip)
      refine qd (qa ?_)
      refine hk_region fun K hK => runs_eval tab_ok ?_
      simp only [ev0, evA, evB, evP, fl, gp, tab, simprocAttr, reduceCtorEq, reduceIte]
      refine fin_run ?_ (hK _ ?_) <;> clear hK <;> clear K
      · (first | exact trivial | omega | (simp only [In64] at *; omega) | (simp [In64] at *; omega) | (simp_all; done) | skip)
      refine qa ?_
      refine ⟨i + 1, [0, 1], by omega, by omega, ?_⟩
      rw [hs1]
      simp only [leq, leA, ev0, evA, evB, evP, fl, gp, tab, simprocAttr, reduceCtorEq, reduceIte] <;> first | trivial | omega
    · (try simp only [nhs] at hC2)
      have hin : i = SL.length := by omega
      have hfin : bo n (cor SL i) = bo n (crp n (op m n) e s) := bo_congr fun y hy => by rw [hin]; exact hS.cor G hb hy
      rw [hfin]
      refine qj (qc (qc (qf (qa (qm ?_)))))
      refine hk_draw mixed (by kernel_rfl) fun K hK => runs_eval tab_ok ?_
      simp only [ev0, evA, evB, evP, fl, gp, tab, simprocAttr, reduceCtorEq, reduceIte]
      refine fin_stop trivial (runs_call (list_s (bo n (crp n (op m n) e s)) (bo_lt64 hb _)) rfl rfl rfl (by simp only [dstOk, Nat.reduceLT]) (by repeat (first | exact trivial | constructor)) (runs_eval tab_ok ?_))
      simp only [ev0, evA, evB, evP, fl, gp, tab, simprocAttr, reduceCtorEq, reduceIte, stl_bo hb]
      refine fin_run ?_ (hK _ ?_) <;> clear hK <;> clear K
      · (first | exact trivial | omega | (simp only [In64] at *; omega) | (simp [In64] at *; omega) | (simp_all; done) | skip)
      refine qa (qk ?_)
      simp only [Tryd.results47, enA, ev0, evA, evB, evP, fl, gp, tab, simprocAttr, reduceCtorEq, reduceIte]
      all_goals ((first | exact rfl | exact ⟨rfl, rfl⟩ | exact ⟨rfl, rfl, rfl⟩ | exact ⟨trivial, rfl⟩ | exact ⟨Nat.le_refl _, rfl⟩ | trivial | (simp; done)))

/-- ALL THAT THE LAWS NEED. -/
theorem sy_ex (h : GT n m n e) (hP : isPr P) : ∃ (s : Nat → Bool) (SL : List Nat) (j t : Nat), Syl n (op m n) e P s j t ∧ SyS n (op m n) e s SL ∧
    FnC Tryd.prog 45 [gp n m, .int .i64 P] (.tup [.list (ll (sql SL)), fl (0, 0)]) := by
  obtain ⟨K, k1, k2⟩ := h.2.2.swq_stop (P := P)
  obtain ⟨j, t, hS⟩ := h.2.2.swq_syl hP k1
  obtain ⟨SL, hL⟩ := sys_ex n (op m n) e (swq n (op m n) e P K) h.2.1.big
  exact ⟨_, SL, j, t, hS, hL, syAll_ok h hP k1 k2 hL⟩

theorem begun_y : FnC Tryd.prog 40 [] (.bool true) := by
  obtain ⟨e, h⟩ := sq8_gt
  have hP : isPr 2 := by decide
  obtain ⟨s, SL, j, t, hY, hS, hA⟩ := sy_ex h hP
  have G := h.2.2
  have hnum := hS.num G hY.sub
  obtain ⟨hm1, hm2⟩ := hY.num_mod G hP hnum
  have hj : j = 3 ∧ t = 1 := by
    have h1 := hY.num
    have h2 := hY.non
    have hjl : j ≤ 3 := by
      refine Nat.le_of_not_lt fun hh => ?_
      have h3 : 2 ^ 4 ≤ 2 ^ j := Nat.pow_le_pow_right (by omega) hh
      have h4 : 0 < t := by
        rcases Nat.eq_zero_or_pos t with h | h
        · exact absurd (h ▸ Nat.dvd_zero 2) h2
        · exact h
      have h5 : 2 ^ j * 1 ≤ 2 ^ j * t := Nat.mul_le_mul_left _ h4
      omega
    have : j = 0 ∨ j = 1 ∨ j = 2 ∨ j = 3 := by omega
    rcases this with rfl | rfl | rfl | rfl
    · exact absurd ⟨4, by omega⟩ h2
    · exact absurd ⟨2, by omega⟩ h2
    · exact absurd ⟨1, by omega⟩ h2
    · exact ⟨rfl, by omega⟩
  obtain ⟨rfl, rfl⟩ := hj
  have hl1 : SL.length = 1 := Nat.dvd_one.1 hm2
  have hsl := sql_len SL
  obtain ⟨a, ha, hv, hr⟩ := hS.at (by omega) (show 0 < SL.length by omega)
  have hg := ll_get (ls := sql SL) (i := 0) (by omega)
  rw [hr] at hg
  have hlen : (thl 8 (shf 8 (op sq8 8) e s a)).length = 8 := by
    have h1 : (thl 8 (shf 8 (op sq8 8) e s a)).length = (mem 8 (shf 8 (op sq8 8) e s a)).length := thl_len _ _
    rw [h1, G.shf_len ha, hY.len]
  rw [hl1] at hsl
  refine fnc_of tab_ok Tryd.func40 rfl (by kernel_rfl) (by rw [Tryd.ntmps40]; exact Nat.le_add_left 0 _) ?_; rw [Tryd.ntmps40]
  refine qm ?_
  refine hk_region fun K hK => runs_eval tab_ok ?_
  simp only [ev0, evA, evB, evP, fl, gp, tab, simprocAttr, reduceCtorEq, reduceIte]
  refine fin_run trivial (hK _ ?_) <;> clear hK <;> clear K
  refine qa (qm ?_)
  refine hk_region fun K hK => runs_eval tab_ok ?_
  simp only [ev0, evA, evB, evP, fl, gp, tab, simprocAttr, reduceCtorEq, reduceIte]
  refine fin_stop trivial (runs_call (square_c) rfl rfl rfl (by simp only [dstOk, Nat.reduceLT]) (by repeat (first | exact trivial | constructor)) (runs_eval tab_ok ?_))
  simp only [ev0, evA, evB, evP, fl, gp, tab, simprocAttr, reduceCtorEq, reduceIte]
  refine fin_stop trivial (runs_call (hA) rfl rfl rfl (by simp only [dstOk, Nat.reduceLT]) (by repeat (first | exact trivial | constructor)) (runs_eval tab_ok ?_))
  simp only [ev0, evA, evB, evP, fl, gp, tab, simprocAttr, reduceCtorEq, reduceIte]
  refine fin_run ?_ (hK _ ?_) <;> clear hK <;> clear K
  · (first | exact trivial | omega | (simp only [In64] at *; omega) | (simp [In64] at *; omega) | (simp_all; done) | skip)
  refine qa (qm ?_)
  refine hk_region fun K hK => runs_eval tab_ok ?_
  simp only [ev0, evA, evB, evP, fl, gp, tab, simprocAttr, reduceCtorEq, reduceIte, hg, ll_length, hsl, il_length, hlen]
  refine fin_run ?_ (hK _ ?_) <;> clear hK <;> clear K
  · (first | exact trivial | omega | (simp only [In64] at *; omega) | (simp [In64] at *; omega) | (simp_all; done) | skip)
  refine qa (qk ?_)
  simp only [Tryd.results40, enA, ev0, evA, evB, evP, fl, gp, tab, simprocAttr, reduceCtorEq, reduceIte]
  all_goals (trace_state)
end
end Go.Proofs.YtjikchbmkodgfaaDoor

/-
  What all of Sylow's subgroups have: what the laws need. Conditions: none.
-/
set_option linter.all false
namespace Go.Proofs.YtjikchbmkodgfaaDoor
open Go.Pv

section
variable {n e P : Nat} {f : Nat → Nat → Nat} {s : Nat → Bool} {SL : List Nat}
theorem Grp.shf_shf (G : Grp n f e) {a b y : Nat} (ha : a < n) (hb : b < n) (hy : y < n) : shf n f e (shf n f e s a) b y = shf n f e s (f a b) y := by
  have ib := G.iv_lt hb
  rw [G.shf_back hb hy, G.shf_back ha (G.cjr_lt hy ib), G.shf_back (G.cl _ _ ha hb) hy, G.iv_prod ha hb, G.cjr_cjr hy ib (G.iv_lt ha)]
theorem SyS.shf (h : SyS n f e s SL) (G : Grp n f e) {a : Nat} (ha : a < n) : SyS n f e (Go.Proofs.YtjikchbmkodgfaaDoor.shf n f e s a) SL where
  rise := h.rise
  all x := by
    rw [h.all x]
    constructor
    · rintro ⟨b, hb, rfl⟩
      exact ⟨f (iv n f e a) b, G.cl _ _ (G.iv_lt ha) hb, bo_congr fun y hy => by
        rw [G.shf_shf ha (G.cl _ _ (G.iv_lt ha) hb) hy, ← G.assoc a _ b ha (G.iv_lt ha) hb, G.mul_iv ha, G.one_l b hb]⟩
    · rintro ⟨b, hb, rfl⟩
      exact ⟨f a b, G.cl _ _ ha hb, bo_congr fun y hy => G.shf_shf ha hb hy⟩
theorem bo_eqs {p q : Nat → Bool} (h : bo n p = bo n q) : ∀ y, y < n → p y = q y := fun y hy => by
  have := congrArg (fun x => Nat.testBit x y) h
  simpa [bo_bit, hy] using this
/-- One alone is normal. -/
theorem SyS.one_nml (h : SyS n f e s SL) (G : Grp n f e) (hs : Sub n f e s) (hp : 0 < SL.length) : SL.length = 1 ↔ Nml n f e s := by
  have hse : ∀ y, y < n → Go.Proofs.YtjikchbmkodgfaaDoor.shf n f e s e y = s y := fun y hy => by rw [G.shf_back G.el hy, G.iv_one, G.cjr_e hy]
  constructor
  · intro h1
    obtain ⟨x, hx⟩ := List.length_eq_one_iff.1 h1
    have hm : ∀ a, a < n → bo n (Go.Proofs.YtjikchbmkodgfaaDoor.shf n f e s a) = x := fun a ha => by
      have := (h.all _).2 ⟨a, ha, rfl⟩
      rw [hx, List.mem_singleton] at this; exact this
    refine G.nml_iff.2 fun a ha => nzr_iff.2 fun y hy => ?_
    rw [bo_eqs ((hm a ha).trans (hm e G.el).symm) y hy, hse y hy]
  · intro h1
    have hall : ∀ x ∈ SL, x = bo n s := fun x hx => by
      obtain ⟨a, ha, rfl⟩ := (h.all x).1 hx
      exact bo_congr fun y hy => nzr_iff.1 (G.nml_iff.1 h1 a ha) y hy
    have := List.Nodup.length_le_of_subset h.nodup (l₂ := [bo n s]) fun x hx => by rw [List.mem_singleton]; exact hall x hx
    simp at this
    omega
end

section
variable {n e P : Nat} {m : List Int}
/-- ALL THAT THE LAWS NEED, with the first one. -/
theorem sy_all (h : GT n m n e) (hP : isPr P) : ∃ (s : Nat → Bool) (SL : List Nat) (j t : Nat), Syl n (op m n) e P s j t ∧ SyS n (op m n) e s SL ∧ 0 < SL.length ∧ SL.getD 0 0 = bo n s ∧ (sql SL).getD 0 [] = thl n s ∧
    FnC Tryd.prog 45 [gp n m, .int .i64 P] (.tup [.list (ll (sql SL)), fl (0, 0)]) ∧ FnC Tryd.prog 47 [gp n m, .int .i64 P] (.tup [.list (il (thl n (crp n (op m n) e s))), fl (0, 0)]) := by
  obtain ⟨s, SL, j, t, h1, h2, h3⟩ := sy_ex h hP
  have G := h.2.2
  have hp := h2.pos G
  obtain ⟨a, ha, h4, h5⟩ := h2.at h.2.1.big hp
  exact ⟨_, SL, j, t, h1.shf G ha, h2.shf G ha, hp, h4, h5, h3, syCore_ok h (h2.shf G ha) h3⟩
end
end Go.Proofs.YtjikchbmkodgfaaDoor

/-
  What reads as one value reads as another. Conditions: none.
-/
set_option linter.all false
namespace Go.Proofs.YtjikchbmkodgfaaDoor
open Go.Pv

/-! ### What reads as one reads as another -/

def Rle (a b : PV) : Prop := ∀ (ok : Nat → Prop) (w : World) (v : Value), Reads ok w a v → Reads ok w b v
theorem Rle.rfl {a : PV} : Rle a a := fun _ _ _ h => h
theorem Rle.nn {l : List PV} : Rle (.nn l) (.list l) := fun _ _ _ h => h.nn_list
def Rles : List PV → List PV → Prop
  | [], [] => True
  | a :: r, b :: s => Rle a b ∧ Rles r s
  | _, _ => False
theorem Rles.len : ∀ {l r : List PV}, Rles l r → l.length = r.length
  | [], [], _ => by rfl
  | a :: l, b :: r, h => by simp [Rles.len h.2]
  | [], _ :: _, h => h.elim
  | _ :: _, [], h => h.elim
theorem Rles.get : ∀ {l r : List PV}, Rles l r → ∀ (i : Nat) (h : i < l.length) (h' : i < r.length), Rle l[i] r[i]
  | a :: l, b :: r, h, 0, _, _ => h.1
  | a :: l, b :: r, h, i + 1, h1, h2 => by simpa using Rles.get h.2 i (by simpa using h1) (by simpa using h2)
  | [], [], _, i, h, _ => by simp at h
  | [], _ :: _, h, _, _, _ => h.elim
  | _ :: _, [], h, _, _, _ => h.elim
end Go.Proofs.YtjikchbmkodgfaaDoor

/-
  Classes: by what is alike; of conjugate things. Conditions: none.
-/
set_option linter.all false
namespace Go.Proofs.YtjikchbmkodgfaaDoor
open Go.Pv

/-- The classes whose least things are below a. -/
def cstp (n : Nat) (r : Nat → Nat → Bool) (a : Nat) : List (List Int) := ((List.range a).filter (lead r)).map fun x => thl n (r x)
def cst (n : Nat) (r : Nat → Nat → Bool) : List (List Int) := cstp n r n
/-! ### Rows of rows, compared -/

/-- Rows of rows, typed. -/
def lln (ls : List (List Int)) : List PV := ls.map fun w => .nn (il w)
/-! ### Classes of conjugate things -/

/-- What is in a class of an earlier thing. -/
def hadp (r : Nat → Nat → Bool) (x y : Nat) : Bool := decide (∃ z, z < x ∧ r z y = true)
/-- What is x, conjugated by an earlier thing. -/
def sp (n : Nat) (f : Nat → Nat → Nat) (e x a y : Nat) : Bool := decide (∃ b, b < a ∧ cjr n f e x b = y)
end Go.Proofs.YtjikchbmkodgfaaDoor

/-
  Classes: where things stand; powers of classes; pairs that commute. Conditions: none.
-/
set_option linter.all false
namespace Go.Proofs.YtjikchbmkodgfaaDoor
open Go.Pv

/-- The place of the first list that has a thing; -1: none has. -/
def wch (l : List (List Int)) (x : Int) : Int := match fst' (fun i => decide (x ∈ l.getD i [])) l.length with | some i => (i : Int) | none => -1

/-- A row by a rule. -/
def rgz (n : Nat) (g : Nat → Int) : List Int := (List.range n).map g
/-- Where each thing's class stands. -/
def whl (n : Nat) (r : Nat → Nat → Bool) : List Int := rgz n fun a => wch (cst n r) a

end Go.Proofs.YtjikchbmkodgfaaDoor

/-
  Cosets: right, left and double, of the program and of the document. Conditions: none.
-/
set_option linter.all false
namespace Go.Proofs.YtjikchbmkodgfaaDoor
open Go.Pv

/-! ### Gathered -/

/-! ### Products of a set, a thing and a set -/

def pdr (f : Nat → Nat → Nat) (x a : Nat) (lm : List Int) : List Int := lm.map fun y => ((f (f x a) y.toNat : Nat) : Int)
def pdl (f : Nat → Nat → Nat) (a : Nat) (l lm : List Int) : List Int := l.flatMap fun x => pdr f x.toNat a lm
/-! ### As the document has them -/

/-! ### An example of the document -/

def cy4 : List Int := [0, 1, 2, 3, 1, 2, 3, 0, 2, 3, 0, 1, 3, 0, 1, 2]
def ev4 (x : Nat) : Bool := x == 0 || x == 2
end Go.Proofs.YtjikchbmkodgfaaDoor

/-
  The quotient of a group by a congruence; by a normal subgroup. Conditions: none.
-/
set_option linter.all false
namespace Go.Proofs.YtjikchbmkodgfaaDoor
open Go.Pv

/-- Places for classes: of each thing its place; of each place a thing. -/
structure Qm (n : Nat) (f : Nat → Nat → Nat) (k : Nat) (cl rep : Nat → Nat) : Prop where
  lt : ∀ a, a < n → cl a < k
  rlt : ∀ i, i < k → rep i < n
  at_ : ∀ i, i < k → cl (rep i) = i
  cong : ∀ a b c d, a < n → b < n → c < n → d < n → cl a = cl b → cl c = cl d → cl (f a c) = cl (f b d)

section
variable {n : Nat} {f : Nat → Nat → Nat} {e : Nat} {p : Nat → Bool}
def qop (f : Nat → Nat → Nat) (cl rep : Nat → Nat) (i j : Nat) : Nat := cl (f (rep i) (rep j))
theorem Qm.op {k : Nat} {cl rep : Nat → Nat} (Q : Qm n f k cl rep) {a b : Nat} (ha : a < n) (hb : b < n) : qop f cl rep (cl a) (cl b) = cl (f a b) :=
  Q.cong _ _ _ _ (Q.rlt _ (Q.lt a ha)) ha (Q.rlt _ (Q.lt b hb)) hb (Q.at_ _ (Q.lt a ha)) (Q.at_ _ (Q.lt b hb))
theorem Qm.grp {k : Nat} {cl rep : Nat → Nat} (Q : Qm n f k cl rep) (G : Grp n f e) : Grp k (qop f cl rep) (cl e) where
  pos := Nat.lt_of_le_of_lt (Nat.zero_le _) (Q.lt e G.el)
  cl i j hi hj := Q.lt _ (G.cl _ _ (Q.rlt i hi) (Q.rlt j hj))
  el := Q.lt e G.el
  one_l i hi := by
    have h1 := Q.rlt i hi
    have h2 := Q.op G.el h1
    rw [Q.at_ i hi, G.one_l _ h1, Q.at_ i hi] at h2; exact h2
  one_r i hi := by
    have h1 := Q.rlt i hi
    have h2 := Q.op h1 G.el
    rw [Q.at_ i hi, G.one_r _ h1, Q.at_ i hi] at h2; exact h2
  assoc i j l hi hj hl := by
    have h1 := Q.rlt i hi
    have h2 := Q.rlt j hj
    have h3 := Q.rlt l hl
    have e1 := Q.op (G.cl _ _ h1 h2) h3
    have e2 := Q.op h1 (G.cl _ _ h2 h3)
    rw [Q.at_ l hl] at e1
    rw [Q.at_ i hi] at e2
    have e3 : qop f cl rep i j = cl (f (rep i) (rep j)) := rfl
    have e4 : qop f cl rep j l = cl (f (rep j) (rep l)) := rfl
    rw [e3, e4, e1, e2, G.assoc _ _ _ h1 h2 h3]
  inv i hi := by
    have h1 := Q.rlt i hi
    have h2 := G.iv_lt h1
    have e1 := Q.op h1 h2
    have e2 := Q.op h2 h1
    rw [Q.at_ i hi] at e1 e2
    exact ⟨_, Q.lt _ h2, by rw [e1, G.mul_iv h1], by rw [e2, G.iv_mul h1]⟩

end
end Go.Proofs.YtjikchbmkodgfaaDoor

/-
  Quotients, of the program and of the document. Conditions: none.
-/
set_option linter.all false
namespace Go.Proofs.YtjikchbmkodgfaaDoor
open Go.Pv

/-- The fault of a subgroup that is, or is not, normal. -/
def nfb (b : Bool) : Int × Int := bif b then (0, 0) else (4, 0)
/-! ### Places of classes -/

def rpq (n : Nat) (r : Nat → Nat → Bool) (i : Nat) : Nat := (mem n (lead r)).getD i 0
def clq (n : Nat) (r : Nat → Nat → Bool) (a : Nat) : Nat := (wch (cst n r) a).toNat
section
variable {n : Nat} {r : Nat → Nat → Bool}
end
/-- The quotient's table. -/
def qtb (n : Nat) (f : Nat → Nat → Nat) (r : Nat → Nat → Bool) : List Int := tbl (fun i j => ((qop f (clq n r) (rpq n r) i j : Nat) : Int)) (cst n r).length

end Go.Proofs.YtjikchbmkodgfaaDoor

/-
  Parts of a group as groups; what a group does with cosets: by maps. Conditions: none.
-/
set_option linter.all false
namespace Go.Proofs.YtjikchbmkodgfaaDoor
open Go.Pv

/-! ### Parts -/

/-- Where a thing stands among those of which something is so. -/
def pix (p : Nat → Bool) (x : Nat) : Nat := (thl x p).length
theorem thl_split (n x : Nat) (p : Nat → Bool) (hx : x < n) (hp : p x = true) : ∃ r, thl n p = thl x p ++ (x : Int) :: r := by
  induction n with
  | zero => omega
  | succ n ih =>
    rw [thl_succ]
    by_cases h : x = n
    · subst h
      rw [if_pos hp]; exact ⟨[], rfl⟩
    · obtain ⟨r, hr⟩ := ih (by omega)
      rw [hr]
      exact ⟨r ++ (if p n = true then [(n : Int)] else []), by simp⟩
theorem pix_at {n x : Nat} {p : Nat → Bool} (hx : x < n) (hp : p x = true) : pix p x < (thl n p).length ∧ (thl n p).getD (pix p x) 0 = (x : Int) := by
  obtain ⟨r, hr⟩ := thl_split n x p hx hp
  unfold pix
  rw [hr]
  constructor
  · simp
  · simp [List.getD]
theorem pix_get {n i x : Nat} {p : Nat → Bool} (hi : i < (thl n p).length) (hx : x < n) (hp : p x = true) (h : (thl n p).getD i 0 = (x : Int)) : pix p x = i := by
  obtain ⟨h1, h2⟩ := pix_at hx hp
  rcases Nat.lt_trichotomy (pix p x) i with h3 | h3 | h3
  · have := thl_get_asc h3 hi; omega
  · exact h3
  · have := thl_get_asc h3 h1; omega
def lat (n : Nat) (p : Nat → Bool) (i : Nat) : Nat := ((thl n p).getD i 0).toNat
theorem lat_at {n i : Nat} {p : Nat → Bool} (hi : i < (thl n p).length) : lat n p i < n ∧ p (lat n p i) = true ∧ (thl n p).getD i 0 = (lat n p i : Int) ∧ pix p (lat n p i) = i := by
  obtain ⟨x, x1, x2, x3⟩ := thl_get hi
  have : lat n p i = x := by unfold lat; rw [x3]; rfl
  rw [this]
  exact ⟨x1, x2, x3, pix_get hi x1 x2 x3⟩
/-- The part's operation, by places. -/
def pop (n : Nat) (f : Nat → Nat → Nat) (p : Nat → Bool) (i j : Nat) : Nat := pix p (f (lat n p i) (lat n p j))
def ptb (n : Nat) (f : Nat → Nat → Nat) (p : Nat → Bool) : List Int := tbl (fun i j => ((pop n f p i j : Nat) : Int)) (thl n p).length
theorem pop_at {n e : Nat} {f : Nat → Nat → Nat} {p : Nat → Bool} (G : Grp n f e) (hs : Sub n f e p) {i j : Nat} (hi : i < (thl n p).length) (hj : j < (thl n p).length) : pop n f p i j < (thl n p).length ∧ lat n p (pop n f p i j) = f (lat n p i) (lat n p j) := by
  obtain ⟨x1, x2, _, _⟩ := lat_at hi
  obtain ⟨y1, y2, _, _⟩ := lat_at hj
  obtain ⟨h1, h2⟩ := pix_at (G.cl _ _ x1 y1) (hs.mul _ _ x1 y1 x2 y2)
  exact ⟨h1, by unfold pop lat at *; rw [h2]; rfl⟩
/-- A part is a group. -/
theorem ptb_grp {n e : Nat} {f : Nat → Nat → Nat} {p : Nat → Bool} (G : Grp n f e) (hs : Sub n f e p) : Grp (thl n p).length (pop n f p) (pix p e) := by
  have le := pix_at G.el hs.one
  have hat : ∀ {i}, i < (thl n p).length → pix p (lat n p i) = i := fun hi => (lat_at hi).2.2.2
  have hle : lat n p (pix p e) = e := by unfold lat; rw [le.2]; rfl
  refine ⟨by omega, fun i j hi hj => (pop_at G hs hi hj).1, le.1, fun i hi => ?_, fun i hi => ?_, fun i j k hi hj hk => ?_, fun i hi => ?_⟩
  · unfold pop; rw [hle, G.one_l _ (lat_at hi).1, hat hi]
  · unfold pop; rw [hle, G.one_r _ (lat_at hi).1, hat hi]
  · have h1 := pop_at G hs hi hj
    have h2 := pop_at G hs hj hk
    show pix p (f (lat n p (pop n f p i j)) (lat n p k)) = pix p (f (lat n p i) (lat n p (pop n f p j k)))
    rw [h1.2, h2.2, G.assoc _ _ _ (lat_at hi).1 (lat_at hj).1 (lat_at hk).1]
  · obtain ⟨x1, x2, _, _⟩ := lat_at hi
    have h1 := pix_at (G.iv_lt x1) (hs.inv _ x1 x2)
    have h2 : lat n p (pix p (iv n f e (lat n p i))) = iv n f e (lat n p i) := by
      show ((thl n p).getD (pix p (iv n f e (lat n p i))) 0).toNat = _
      rw [h1.2]; rfl
    refine ⟨_, h1.1, ?_, ?_⟩
    · show pix p (f (lat n p i) (lat n p (pix p (iv n f e (lat n p i))))) = _
      rw [h2, G.mul_iv x1]
    · show pix p (f (lat n p (pix p (iv n f e (lat n p i)))) (lat n p i)) = _
      rw [h2, G.iv_mul x1]

theorem take_snoc {l : List Int} {i : Nat} (h : i < l.length) : l.take (i + 1) = l.take i ++ [l.getD i 0] := by
  rw [List.take_succ_eq_append_getElem h]
  simp [List.getD, List.getElem?_eq_getElem h]
/-- Where a part's thing stands, as a value. -/
def pxv (p : Nat → Bool) (u : Int) : PV := .int .i64 (pix p u.toNat)

set_option maxHeartbeats 4000000 in
theorem part_ok {n e : Nat} {m : List Int} (h : GT n m n e) (p : Nat → Bool) (hs : Sub n (op m n) e p) : FnC Tryd.prog 57 [gp n m, .list (il (thl n p))] (.tup [gp (thl n p).length (ptb n (op m n) p), fl (0, 0)]) := by
  have G := h.2.2
  have hb := h.2.1.big
  have hlp := thl_le n p
  have hsq := sq_le (show (thl n p).length ≤ 60 by omega)
  have hlen := tbr_len (fun i j => ((pop n (op m n) p i j : Nat) : Int)) (thl n p).length
  refine fnc_of tab_ok Tryd.func57 rfl (by kernel_rfl) (by rw [Tryd.ntmps57]; exact Nat.le_add_left 2 _) ?_; rw [Tryd.ntmps57]
  refine qm ?_
  refine hk_region fun K hK => runs_eval tab_ok ?_
  simp only [ev0, evA, evB, evP, fl, gp, tab, simprocAttr, reduceCtorEq, reduceIte]
  refine fin_run ?_ (hK _ ?_) <;> clear hK <;> clear K
  · (first | exact trivial | omega | (simp only [In64] at *; omega) | (simp [In64] at *; omega) | (simp_all; done) | skip)
  refine qa (qm (qm ?_))
  refine hk_region fun K hK => runs_eval tab_ok ?_
  simp only [ev0, evA, evB, evP, fl, gp, tab, simprocAttr, reduceCtorEq, reduceIte]
  refine fin_stop trivial (runs_call (group_ok h p true (by simp [hs])) rfl rfl rfl (by simp only [dstOk, Nat.reduceLT]) (by repeat (first | exact trivial | constructor)) (runs_eval tab_ok ?_))
  simp only [ev0, evA, evB, evP, fl, gp, tab, simprocAttr, reduceCtorEq, reduceIte, ufb]
  refine fin_run ?_ (hK _ ?_) <;> clear hK <;> clear K
  · (first | exact trivial | omega | (simp only [In64] at *; omega) | (simp [In64] at *; omega) | (simp_all; done) | skip)
  refine qa (qm ?_)
  refine hk_region fun K hK => runs_eval tab_ok ?_
  simp only [ev0, evA, evB, evP, fl, gp, tab, simprocAttr, reduceCtorEq, reduceIte]
  refine fin_run ?_ (hK _ ?_) <;> clear hK <;> clear K
  · (first | exact trivial | omega | (simp only [In64] at *; omega) | (simp [In64] at *; omega) | (simp_all; done) | skip)
  refine qa ?_
  refine hk_cond rfl (fun hC1 => ?_) (fun hC1 => ?_)
  · cases hC1
  · (try simp only [nhs] at hC1)
    refine qh (qa (qm ?_))
    refine hk_region fun K hK => runs_eval tab_ok ?_
    simp only [ev0, evA, evB, evP, fl, gp, tab, simprocAttr, reduceCtorEq, reduceIte]
    refine fin_run ?_ (hK _ ?_) <;> clear hK <;> clear K
    · (first | exact trivial | omega | (simp only [In64] at *; omega) | (simp [In64] at *; omega) | (simp_all; done) | skip)
    refine qa (qm (qm ?_))
    refine hk_region fun K hK => runs_eval tab_ok ?_
    simp only [ev0, evA, evB, evP, fl, gp, tab, simprocAttr, reduceCtorEq, reduceIte, il_length]
    refine fin_run trivial (hK _ ?_) <;> clear hK <;> clear K
    refine qa (ql ?_)
    refine hk_loop (ι := Nat) (fun i => ⟨65, [(1, .p (.list (il (thl n p)))), (2, .ptr 0 0), (4, .ptr 1 0), (5, .ptr 2 0), (7, .mptr 3), (24, .p (.list (il (thl n p)))), (25, .p (.int .i64 (thl n p).length)), (26, .p (.int .i64 i))], [.own [.p (.int .i64 n), .p (.list (il m))], .own [.p (.int .i64 0), .p .nil], .own [.p (.int .i64 0), .p (.int .i64 0)], .mp .i64 (mpd ((thl n p).take i)) (mpv ((thl n p).take i) (pxv p))]⟩) (fun i => i ≤ (thl n p).length) (fun i => (thl n p).length - i) 0 (Nat.zero_le _) [0, 1, 2, 4] (by simp only [leq, leA, ev0, evA, evB, evP, fl, gp, tab, simprocAttr, reduceCtorEq, reduceIte] <;> first | trivial | (rw [mpd_nil, mpv_nil]; rfl)) fun i hi => ?_
    refine qm ?_
    refine hk_region fun K hK => runs_eval tab_ok ?_
    simp only [ev0, evA, evB, evP, fl, gp, tab, simprocAttr, reduceCtorEq, reduceIte]
    refine fin_run trivial (hK _ ?_) <;> clear hK <;> clear K
    refine qa (qm ?_)
    refine hk_cond rfl (fun hC2 => ?_) (fun hC2 => ?_)
    · (try simp only [nhs] at hC2)
      have hlt : i < (thl n p).length := by omega
      obtain ⟨x1, x2, x3, x4⟩ := lat_at hlt
      refine qh (qa (qm (ql (qm ?_))))
      refine hk_region fun K hK => runs_eval tab_ok ?_
      simp only [ev0, evA, evB, evP, fl, gp, tab, simprocAttr, reduceCtorEq, reduceIte, il_get hlt, x3]
      refine fin_run ?_ (hK _ ?_) <;> clear hK <;> clear K
      · (first | exact trivial | omega | (simp only [In64] at *; omega) | (simp [In64] at *; omega) | (simp_all; done) | skip)
      refine qa ?_
      refine hk_region fun K hK => runs_eval tab_ok ?_
      simp only [ev0, evA, evB, evP, fl, gp, tab, simprocAttr, reduceCtorEq, reduceIte]
      refine fin_run ?_ (hK _ ?_) <;> clear hK <;> clear K
      · (first | exact trivial | omega | (simp only [In64] at *; omega) | (simp [In64] at *; omega) | (simp_all; done) | skip)
      refine qd (qa ?_)
      refine hk_region fun K hK => runs_eval tab_ok ?_
      simp only [ev0, evA, evB, evP, fl, gp, tab, simprocAttr, reduceCtorEq, reduceIte]
      refine fin_run ?_ (hK _ ?_) <;> clear hK <;> clear K
      · (first | exact trivial | omega | (simp only [In64] at *; omega) | (simp [In64] at *; omega) | (simp_all; done) | skip)
      refine qa ?_
      refine ⟨i + 1, [0, 1, 2, 3], by omega, by omega, ?_⟩
      have hd := mpd_set ((thl n p).take i) (lat n p i : Int)
      have hv := mpv_set ((thl n p).take i) (lat n p i : Int) (pxv p)
      have hx : pxv p (lat n p i : Int) = .int .i64 (i : Int) := by unfold pxv; rw [Int.toNat_natCast, x4]
      rw [hx] at hv
      rw [take_snoc hlt, x3]
      simp only [leq, leA, ev0, evA, evB, evP, fl, gp, tab, simprocAttr, reduceCtorEq, reduceIte] <;> first | trivial | omega | (rw [hd, hv])
    · (try simp only [nhs] at hC2)
      have hin : i = (thl n p).length := by omega
      rw [hin, List.take_length]
      refine qj (qc (qc (qf (qa (qm ?_)))))
      refine hk_region fun K hK => runs_eval tab_ok ?_
      simp only [ev0, evA, evB, evP, fl, gp, tab, simprocAttr, reduceCtorEq, reduceIte, il_length]
      refine fin_run ?_ (hK _ ?_) <;> clear hK <;> clear K
      · (first | exact trivial | omega | (simp only [In64] at *; omega) | (simp [In64] at *; omega) | (simp_all; done) | skip)
      refine qa (qm (qm ?_))
      refine hk_own0c 4 1 rfl rfl ?_
      simp only [hset, List.cons_append, List.nil_append, List.set, List.length_cons, List.length_nil]
      refine hk_region fun K hK => runs_eval tab_ok ?_
      simp only [ev0, evA, evB, evP, fl, gp, tab, simprocAttr, reduceCtorEq, reduceIte, il_length]
      refine fin_run trivial (hK _ ?_) <;> clear hK <;> clear K
      refine qa (ql ?_)
      refine hk_loop (ι := Nat) (fun i => ⟨65, [(1, .p (.list (il (thl n p)))), (2, .ptr 0 0), (4, .ptr 1 0), (5, .ptr 2 0), (7, .mptr 3), (10, .ptr 4 0), (38, .p (.list (il (thl n p)))), (39, .p (.int .i64 (thl n p).length)), (40, .p (.int .i64 i))], [.own [.p (.int .i64 n), .p (.list (il m))], .own [.p (.int .i64 0), .p .nil], .own [.p (.int .i64 0), .p (.int .i64 0)], .mp .i64 (mpd (thl n p)) (mpv (thl n p) (pxv p)), .own [.p (.int .i64 (thl n p).length), .sl 5 0 (tbr (fun i j => ((pop n (op m n) p i j : Nat) : Int)) (thl n p).length (i * (thl n p).length)).length], .own (ol (tbr (fun i j => ((pop n (op m n) p i j : Nat) : Int)) (thl n p).length (i * (thl n p).length)))]⟩) (fun i => i ≤ (thl n p).length) (fun i => (thl n p).length - i) 0 (Nat.zero_le _) [0, 1, 2, 3, 4, 5] (by rw [Nat.zero_mul]; simp only [leq, leA, ev0, evA, evB, evP, fl, gp, tab, simprocAttr, reduceCtorEq, reduceIte] <;> first | trivial | simp [tbr, rg, ol_nil]) fun i hi => ?_
      refine qm ?_
      refine hk_region fun K hK => runs_eval tab_ok ?_
      simp only [ev0, evA, evB, evP, fl, gp, tab, simprocAttr, reduceCtorEq, reduceIte]
      refine fin_run trivial (hK _ ?_) <;> clear hK <;> clear K
      refine qa (qm ?_)
      refine hk_cond rfl (fun hC3 => ?_) (fun hC3 => ?_)
      · (try simp only [nhs] at hC3)
        have hlt : i < (thl n p).length := by omega
        obtain ⟨x1, x2, x3, x4⟩ := lat_at hlt
        refine qh (qa (qm (ql (qm ?_))))
        refine hk_region fun K hK => runs_eval tab_ok ?_
        simp only [ev0, evA, evB, evP, fl, gp, tab, simprocAttr, reduceCtorEq, reduceIte, il_get hlt, x3]
        refine fin_run ?_ (hK _ ?_) <;> clear hK <;> clear K
        · (first | exact trivial | omega | (simp only [In64] at *; omega) | (simp [In64] at *; omega) | (simp_all; done) | skip)
        refine qa (qm ?_)
        refine hk_region fun K hK => runs_eval tab_ok ?_
        simp only [ev0, evA, evB, evP, fl, gp, tab, simprocAttr, reduceCtorEq, reduceIte, il_length]
        refine fin_run trivial (hK _ ?_) <;> clear hK <;> clear K
        refine qa (ql ?_)
        refine hk_loop (ι := Nat) (fun j => ⟨65, [(1, .p (.list (il (thl n p)))), (2, .ptr 0 0), (4, .ptr 1 0), (5, .ptr 2 0), (7, .mptr 3), (10, .ptr 4 0), (12, .p (.int .i64 (lat n p i : Nat))), (38, .p (.list (il (thl n p)))), (39, .p (.int .i64 (thl n p).length)), (40, .p (.int .i64 i)), (44, .p (.list (il (thl n p)))), (45, .p (.int .i64 (thl n p).length)), (46, .p (.int .i64 j))], [.own [.p (.int .i64 n), .p (.list (il m))], .own [.p (.int .i64 0), .p .nil], .own [.p (.int .i64 0), .p (.int .i64 0)], .mp .i64 (mpd (thl n p)) (mpv (thl n p) (pxv p)), .own [.p (.int .i64 (thl n p).length), .sl 5 0 (tbr (fun i j => ((pop n (op m n) p i j : Nat) : Int)) (thl n p).length (i * (thl n p).length + j)).length], .own (ol (tbr (fun i j => ((pop n (op m n) p i j : Nat) : Int)) (thl n p).length (i * (thl n p).length + j)))]⟩) (fun j => j ≤ (thl n p).length) (fun j => (thl n p).length - j) 0 (Nat.zero_le _) [0, 1, 2, 3, 4, 5] (by rw [Nat.add_zero]; simp only [leq, leA, ev0, evA, evB, evP, fl, gp, tab, simprocAttr, reduceCtorEq, reduceIte] <;> trivial) fun j hj => ?_
        refine qm ?_
        refine hk_region fun K hK => runs_eval tab_ok ?_
        simp only [ev0, evA, evB, evP, fl, gp, tab, simprocAttr, reduceCtorEq, reduceIte]
        refine fin_run trivial (hK _ ?_) <;> clear hK <;> clear K
        refine qa (qm ?_)
        refine hk_cond rfl (fun hC4 => ?_) (fun hC4 => ?_)
        · (try simp only [nhs] at hC4)
          have hjl : j < (thl n p).length := by omega
          obtain ⟨y1, y2, y3, y4⟩ := lat_at hjl
          have hxy := G.cl _ _ x1 y1
          have hmem := (mem_thl_n hxy).2 (hs.mul _ _ x1 y1 x2 y2)
          have hin := mpd_in hmem
          have hvv := mpv_in (pxv p) hmem
          have hpx : pxv p ((op m n (lat n p i) (lat n p j) : Nat) : Int) = .int .i64 ((pop n (op m n) p i j : Nat) : Int) := by unfold pxv; rw [Int.toNat_natCast]; rfl
          have hat := at_lt hlt hjl
          have hl := hlen (i * (thl n p).length + j)
          refine qh (qa (qm (ql (qm ?_))))
          refine hk_region fun K hK => runs_eval tab_ok ?_
          simp only [ev0, evA, evB, evP, fl, gp, tab, simprocAttr, reduceCtorEq, reduceIte, il_get hjl, y3]
          refine fin_run ?_ (hK _ ?_) <;> clear hK <;> clear K
          · (first | exact trivial | omega | (simp only [In64] at *; omega) | (simp [In64] at *; omega) | (simp_all; done) | skip)
          refine qa ?_
          refine hk_draw2 mixed fun K hK => runs2_eval tab_ok ?_
          simp only [evD, ev0, evA, evB, evP, fl, gp, tab, simprocAttr, reduceCtorEq, reduceIte]
          refine fin2_stop trivial (runs2_call (of_c h.2.1 x1 y1) rfl rfl rfl rfl (by simp only [dstOk, Nat.reduceLT]) (by repeat (first | exact trivial | constructor)) (runs2_eval tab_ok ?_))
          simp only [evD, ev0, evA, evB, evP, fl, gp, tab, simprocAttr, reduceCtorEq, reduceIte, hin, cond_true, hvv, hpx]
          refine fin2_run ?_ (hK _ _ (by first | kernel_rfl | rfl) ?_) <;> clear hK <;> clear K
          · (first | exact trivial | omega | (simp only [In64] at *; omega) | (simp [In64] at *; omega) | (simp_all; done) | skip)
          refine qd (qa ?_)
          refine hk_region fun K hK => runs_eval tab_ok ?_
          simp only [ev0, evA, evB, evP, fl, gp, tab, simprocAttr, reduceCtorEq, reduceIte]
          refine fin_run ?_ (hK _ ?_) <;> clear hK <;> clear K
          · (first | exact trivial | omega | (simp only [In64] at *; omega) | (simp [In64] at *; omega) | (simp_all; done) | skip)
          refine qa ?_
          refine ⟨j + 1, [0, 1, 2, 3, 4, 6], by omega, by omega, ?_⟩
          rw [tbr_succ (fun i j => ((pop n (op m n) p i j : Nat) : Int)) hjl]
          simp only [leq, leA, ev0, evA, evB, evP, fl, gp, tab, simprocAttr, reduceCtorEq, reduceIte] <;> first | trivial | omega
        · (try simp only [nhs] at hC4)
          have hjn : j = (thl n p).length := by omega
          refine qj (qc (qc (qf (qd (qa ?_)))))
          refine hk_region fun K hK => runs_eval tab_ok ?_
          simp only [ev0, evA, evB, evP, fl, gp, tab, simprocAttr, reduceCtorEq, reduceIte]
          refine fin_run ?_ (hK _ ?_) <;> clear hK <;> clear K
          · (first | exact trivial | omega | (simp only [In64] at *; omega) | (simp [In64] at *; omega) | (simp_all; done) | skip)
          refine qa ?_
          refine ⟨i + 1, [0, 1, 2, 3, 4, 5], by omega, by omega, ?_⟩
          rw [hjn, show (i + 1) * (thl n p).length = i * (thl n p).length + (thl n p).length by rw [Nat.add_mul, Nat.one_mul]]
          simp only [leq, leA, ev0, evA, evB, evP, fl, gp, tab, simprocAttr, reduceCtorEq, reduceIte] <;> first | trivial | omega
      · (try simp only [nhs] at hC3)
        have hin : i = (thl n p).length := by omega
        refine qj (qc (qc (qf (qa (qm ?_)))))
        refine hk_region fun K hK => runs_eval tab_ok ?_
        simp only [ev0, evA, evB, evP, fl, gp, tab, simprocAttr, reduceCtorEq, reduceIte]
        refine fin_run ?_ (hK _ ?_) <;> clear hK <;> clear K
        · (first | exact trivial | omega | (simp only [In64] at *; omega) | (simp [In64] at *; omega) | (simp_all; done) | skip)
        refine qa (qk ?_)
        simp only [Tryd.results57, enA, ev0, evA, evB, evP, fl, gp, tab, simprocAttr, reduceCtorEq, reduceIte]
        all_goals (simp [hin, tbl, ptb])
end Go.Proofs.YtjikchbmkodgfaaDoor

/-
  Plain law, FRATTINI'S ARGUMENT. Conditions: none.
-/
set_option linter.all false
namespace Go.Proofs.YtjikchbmkodgfaaDoor
open Go.Pv

section
variable {n e P : Nat} {f : Nat → Nat → Nat} {q s : Nat → Bool}

theorem Syl.cong {f g : Nat → Nat → Nat} {j t : Nat} (hY : Syl n g e P s j t) (G : Grp n f e) (h : ∀ a b, a < n → b < n → g a b = f a b) : Syl n f e P s j t :=
  ⟨hY.sub.cong_op G h, hY.len, hY.num, hY.non⟩

/-- A part's set, as a set of the whole. -/
def upt (q s : Nat → Bool) (y : Nat) : Bool := q y && s (pix q y)
theorem upt_lat {i : Nat} (hi : i < (thl n q).length) : upt q s (lat n q i) = s i := by
  obtain ⟨_, h2, _, h4⟩ := lat_at hi
  unfold upt
  rw [h2, h4]; rfl
theorem lat_of {y : Nat} (hy : y < n) (hq : q y = true) : pix q y < (thl n q).length ∧ lat n q (pix q y) = y := by
  obtain ⟨h1, h2⟩ := pix_at hy hq
  exact ⟨h1, by unfold lat; rw [h2]; rfl⟩

theorem upt_sub (G : Grp n f e) (hq : Sub n f e q) (hs : Sub (thl n q).length (pop n f q) (pix q e) s) : Sub n f e (upt q s) :=
  sub_of G (by unfold upt; rw [hq.one, hs.one]; rfl) fun a b ha hb h1 h2 => by
    unfold upt at h1 h2
    rw [Bool.and_eq_true] at h1 h2
    obtain ⟨a1, a2⟩ := lat_of ha h1.1
    obtain ⟨b1, b2⟩ := lat_of hb h2.1
    obtain ⟨c1, c2⟩ := pop_at G hq a1 b1
    have := hs.mul _ _ a1 b1 h1.2 h2.2
    rw [← upt_lat (n := n) (q := q) (s := s) c1, c2, a2, b2] at this
    exact this
theorem mem_bij2 {n k : Nat} {P Q : Nat → Bool} (g : Nat → Nat) (h1 : ∀ x, x < n → P x = true → g x < k ∧ Q (g x) = true) (hi : ∀ x y, x < n → y < n → P x = true → P y = true → g x = g y → x = y) (h2 : ∀ y, y < k → Q y = true → ∃ x, x < n ∧ P x = true ∧ g x = y) : (mem n P).length = (mem k Q).length := by
  rw [← List.length_map (f := g) («as» := mem n P)]
  refine same_len (nodup_map (List.nodup_range.filter _) fun x hx y hy h => ?_) (List.nodup_range.filter _) fun y => ?_
  · obtain ⟨a1, a2⟩ := mem_mem.1 hx
    obtain ⟨b1, b2⟩ := mem_mem.1 hy
    exact hi x y a1 b1 a2 b2 h
  · rw [List.mem_map, mem_mem]
    constructor
    · rintro ⟨x, hx, rfl⟩
      obtain ⟨a1, a2⟩ := mem_mem.1 hx
      exact h1 x a1 a2
    · rintro ⟨a1, a2⟩
      obtain ⟨x, b1, b2, b3⟩ := h2 y a1 a2
      exact ⟨x, mem_mem.2 ⟨b1, b2⟩, b3⟩
theorem upt_len (q s : Nat → Bool) : (mem n (upt q s)).length = (mem (thl n q).length s).length :=
  mem_bij2 (P := upt q s) (Q := s) (pix q) (fun x hx h => by
    unfold upt at h
    rw [Bool.and_eq_true] at h
    exact ⟨(lat_of hx h.1).1, h.2⟩) (fun x y hx hy h1 h2 h => by
    unfold upt at h1 h2
    rw [Bool.and_eq_true] at h1 h2
    rw [← (lat_of hx h1.1).2, h, (lat_of hy h2.1).2]) fun i hi h => by
    obtain ⟨l1, l2, _, l4⟩ := lat_at hi
    exact ⟨lat n q i, l1, by rw [upt_lat hi]; exact h, l4⟩
theorem lat_iv (G : Grp n f e) (hq : Sub n f e q) {i : Nat} (hi : i < (thl n q).length) : lat n q (iv (thl n q).length (pop n f q) (pix q e) i) = iv n f e (lat n q i) := by
  have H := ptb_grp G hq
  have h1 := H.iv_lt hi
  have h2 := (pop_at G hq hi h1).2
  rw [H.mul_iv hi, (lat_of G.el hq.one).2] at h2
  exact G.iv_unique (lat_at hi).1 (lat_at h1).1 (.inl h2.symm)
theorem lat_cjr (G : Grp n f e) (hq : Sub n f e q) {i k : Nat} (hi : i < (thl n q).length) (hk : k < (thl n q).length) : lat n q (cjr (thl n q).length (pop n f q) (pix q e) i k) = cjr n f e (lat n q i) (lat n q k) := by
  have H := ptb_grp G hq
  have h1 := H.iv_lt hk
  unfold cjr
  rw [(pop_at G hq (H.cl _ _ h1 hi) hk).2, (pop_at G hq h1 hi).2, lat_iv G hq hk]
theorem upt_shf (G : Grp n f e) (hq : Sub n f e q) {i k : Nat} (hi : i < (thl n q).length) (hk : k < (thl n q).length) : shf (thl n q).length (pop n f q) (pix q e) s k i = shf n f e (upt q s) (lat n q k) (lat n q i) := by
  have H := ptb_grp G hq
  have h1 := H.iv_lt hk
  rw [H.shf_back hk hi, G.shf_back (lat_at hk).1 (lat_at hi).1, ← lat_iv G hq hk, ← lat_cjr G hq hi h1, upt_lat (H.cjr_lt hi h1)]

theorem frattini (G : Grp n f e) (hq : Sub n f e q) (hn : Nml n f e q) (hP : isPr P) {j t : Nat} (hY : Syl (thl n q).length (pop n f q) (pix q e) P s j t) {a : Nat} (ha : a < n) :
    Gen n f e (fun x => nzr n f e (upt q s) x || q x) a := by
  have H := ptb_grp G hq
  have hS := upt_sub G hq hY.sub
  have hSa := G.shf_sub hS ha
  have hin : ∀ y, y < n → shf n f e (upt q s) a y = true → q y = true := fun y hy h => by
    obtain ⟨x, hx, h1, rfl⟩ := shf_iff.1 h
    unfold upt at h1
    rw [Bool.and_eq_true] at h1
    exact hn a ha x hx h1.1
  obtain ⟨s1, hs1⟩ : ∃ s1 : Nat → Bool, s1 = fun i => shf n f e (upt q s) a (lat n q i) := ⟨_, rfl⟩
  have hs1s : Sub (thl n q).length (pop n f q) (pix q e) s1 := sub_of H (by rw [hs1]; simp only; rw [(lat_of G.el hq.one).2]; exact hSa.one) fun i k hi hk h1 h2 => by
    rw [hs1] at h1 h2 ⊢
    simp only at h1 h2 ⊢
    rw [(pop_at G hq hi hk).2]
    exact hSa.mul _ _ (lat_at hi).1 (lat_at hk).1 h1 h2
  have hup : ∀ y, y < n → upt q s1 y = shf n f e (upt q s) a y := fun y hy => by
    rw [show upt q s1 y = (q y && s1 (pix q y)) from rfl]
    cases hqy : q y with
    | true =>
      rw [hs1]
      simp only [Bool.true_and]
      rw [(lat_of hy hqy).2]
    | false =>
      cases hsy : shf n f e (upt q s) a y with
      | true => rw [hin y hy hsy] at hqy; cases hqy
      | false => simp
  have hs1l : (mem (thl n q).length s1).length = P ^ j := by
    rw [← upt_len q s1, mem_congr hup, G.shf_len ha, upt_len, hY.len]
  obtain ⟨b, hb, hall⟩ := hY.holds H hP hs1s hs1l
  have lb := lat_at hb
  have hle : ∀ y, y < n → shf n f e (upt q s) a y = true → shf n f e (upt q s) (lat n q b) y = true := fun y hy h => by
    obtain ⟨y1, y2⟩ := lat_of hy (hin y hy h)
    have := hall (pix q y) y1 (by rw [hs1]; simp only; rw [y2]; exact h)
    rw [upt_shf G hq y1 hb, y2] at this
    exact this
  have heq : ∀ y, y < n → shf n f e (upt q s) a y = shf n f e (upt q s) (lat n q b) y := fun y hy => by
    refine Classical.byContradiction fun hne => ?_
    have := mem_lt (n := n) hle fun hh => hne (hh y hy)
    rw [G.shf_len ha, G.shf_len lb.1] at this
    omega
  have ilb := G.iv_lt lb.1
  have hc := G.cl _ _ ha ilb
  have hz : nzr n f e (upt q s) (f a (iv n f e (lat n q b))) = true := nzr_iff.2 fun y hy => by
    rw [G.shf_back hc hy, G.iv_prod ha ilb, G.iv_iv lb.1, ← G.cjr_cjr hy lb.1 (G.iv_lt ha), ← G.shf_back (p := upt q s) ha (G.cjr_lt hy lb.1), heq _ (G.cjr_lt hy lb.1), G.shf_back lb.1 (G.cjr_lt hy lb.1), G.cjr_iv hy lb.1]
  have h1 : Gen n f e (fun x => nzr n f e (upt q s) x || q x) (f a (iv n f e (lat n q b))) := Gen.mem G hc (by rw [hz]; rfl)
  have h2 : Gen n f e (fun x => nzr n f e (upt q s) x || q x) (lat n q b) := Gen.mem G lb.1 (by rw [lb.2.1]; simp)
  have h3 := h1.mul G h2
  rwa [G.assoc a _ _ ha ilb lb.1, G.iv_mul lb.1, G.one_r a ha] at h3
end
end Go.Proofs.YtjikchbmkodgfaaDoor

/-
  Walks: the law SylowFrattini. Conditions: none.
-/
set_option linter.all false
namespace Go.Proofs.YtjikchbmkodgfaaDoor
open Go.Pv

section
variable {n e P : Nat} {m : List Int}
theorem pt_GT (h : GT n m n e) {p : Nat → Bool} (hs : Sub n (op m n) e p) : GT (thl n p).length (ptb n (op m n) p) (thl n p).length (pix p e) := by
  have hb := h.2.1.big
  have hl := thl_le n p
  exact tbl_GT' (by omega) (ptb_grp h.2.2 hs)
theorem pt_op {p : Nat → Bool} (f : Nat → Nat → Nat) : ∀ a b, a < (thl n p).length → b < (thl n p).length → op (ptb n f p) (thl n p).length a b = pop n f p a b := fun a b ha hb => tbl_op' _ ha hb
def oru (p q : Nat → Bool) (a : Nat) : Bool := p a || q a
/-- What stands at a place, as a number. -/
def plv (n : Nat) (q : Nat → Bool) (x : Int) : Int := (thl n q).getD x.toNat 0
theorem upt_list (q s : Nat → Bool) : ∀ x, x ≤ n → (thl (pix q x) s).map (plv n q) = thl x (upt q s) := by
  intro x
  induction x with
  | zero => intro _; rfl
  | succ x ih =>
    intro hx
    have h0 := ih (by omega)
    rw [thl_succ]
    cases hq : q x with
    | true =>
      have hp : pix q (x + 1) = pix q x + 1 := by
        unfold pix; rw [thl_succ, if_pos hq]; simp
      obtain ⟨h1, h2⟩ := pix_at (show x < n by omega) hq
      have hu : upt q s x = s (pix q x) := by unfold upt; rw [hq]; rfl
      rw [hp, thl_succ, List.map_append, h0, hu]
      congr 1
      cases s (pix q x) with
      | true =>
        rw [if_pos rfl, if_pos rfl]
        show [plv n q ((pix q x : Nat) : Int)] = _
        unfold plv
        rw [Int.toNat_natCast, h2]
      | false => simp
    | false =>
      have hp : pix q (x + 1) = pix q x := by
        unfold pix; rw [thl_succ, if_neg (by rw [hq]; simp)]; simp
      have hu : upt q s x = false := by unfold upt; rw [hq]; rfl
      rw [hp, h0, hu]; simp
theorem thl_true (n : Nat) : (thl n fun _ => true).length = n := by rw [thl_len]; unfold thn'; rw [List.filter_eq_self.2 fun _ _ => rfl, List.length_range]

theorem syFr_c (n : Nat) (p q : Nat → Bool) (hn : n ≤ 60) {a : Nat} (ha : a < n) : FnC Tryd.prog 58 [.int .i64 a, .ptr [.list (il (thl n p))], .ptr [.list (il (thl n q))]] (.bool (oru p q a)) := by
  have h1 := thl_le n p
  have h2 := thl_le n q
  have h3 : decide (((a : Nat) : Int) ∈ thl n p) = p a := by rw [Bool.eq_iff_iff, decide_eq_true_eq]; exact mem_thl_n ha
  have h4 : decide (((a : Nat) : Int) ∈ thl n q) = q a := by rw [Bool.eq_iff_iff, decide_eq_true_eq]; exact mem_thl_n ha
  refine fnc_of tab_ok Tryd.func58 rfl (by kernel_rfl) (by rw [Tryd.ntmps58]; exact Nat.le_add_left 3 _) ?_; rw [Tryd.ntmps58]
  refine qm ?_
  refine hk_region fun K hK => runs_eval tab_ok ?_
  simp only [ev0, evA, evB, evP, fl, gp, tab, simprocAttr, reduceCtorEq, reduceIte]
  refine fin_run trivial (hK _ ?_) <;> clear hK <;> clear K
  refine qa (qm ?_)
  cases hpa : p a
  · refine hk_region fun K hK => runs_eval tab_ok ?_
    simp only [ev0, evA, evB, evP, fl, gp, tab, simprocAttr, reduceCtorEq, reduceIte]
    refine fin_stop ?_ (runs_call (has_r (thl n p) a (by omega)) rfl rfl rfl (by simp only [dstOk, Nat.reduceLT]) (by repeat (first | exact trivial | constructor)) (runs_eval tab_ok ?_))
    · (first | exact trivial | omega | (simp only [In64] at *; omega) | (simp [In64] at *; omega) | (simp_all; done) | skip)
    simp only [ev0, evA, evB, evP, fl, gp, tab, simprocAttr, reduceCtorEq, reduceIte, h3, hpa]
    refine fin_stop ?_ (runs_call (has_r (thl n q) a (by omega)) rfl rfl rfl (by simp only [dstOk, Nat.reduceLT]) (by repeat (first | exact trivial | constructor)) (runs_eval tab_ok ?_))
    · (first | exact trivial | omega | (simp only [In64] at *; omega) | (simp [In64] at *; omega) | (simp_all; done) | skip)
    simp only [ev0, evA, evB, evP, fl, gp, tab, simprocAttr, reduceCtorEq, reduceIte, h4, hpa]
    refine fin_run ?_ (hK _ ?_) <;> clear hK <;> clear K
    · (first | exact trivial | omega | (simp only [In64] at *; omega) | (simp [In64] at *; omega) | (simp_all; done) | skip)
    refine qa (qk ?_)
    simp only [Tryd.results58, enA, ev0, evA, evB, evP, fl, gp, tab, simprocAttr, reduceCtorEq, reduceIte]
    all_goals (first | (unfold oru; rw [hpa]; done) | (unfold oru; rw [hpa]; simp) | (simp [oru, hpa]))
  · refine hk_region fun K hK => runs_eval tab_ok ?_
    simp only [ev0, evA, evB, evP, fl, gp, tab, simprocAttr, reduceCtorEq, reduceIte]
    refine fin_stop ?_ (runs_call (has_r (thl n p) a (by omega)) rfl rfl rfl (by simp only [dstOk, Nat.reduceLT]) (by repeat (first | exact trivial | constructor)) (runs_eval tab_ok ?_))
    · (first | exact trivial | omega | (simp only [In64] at *; omega) | (simp [In64] at *; omega) | (simp_all; done) | skip)
    simp only [ev0, evA, evB, evP, fl, gp, tab, simprocAttr, reduceCtorEq, reduceIte, h3, hpa]
    refine fin_run ?_ (hK _ ?_) <;> clear hK <;> clear K
    · (first | exact trivial | omega | (simp only [In64] at *; omega) | (simp [In64] at *; omega) | (simp_all; done) | skip)
    refine qa (qk ?_)
    simp only [Tryd.results58, enA, ev0, evA, evB, evP, fl, gp, tab, simprocAttr, reduceCtorEq, reduceIte]
    all_goals (first | (unfold oru; rw [hpa]; done) | (unfold oru; rw [hpa]; simp) | (simp [oru, hpa]))

theorem sylowFrattini_no (N : Int) (m : List Int) (p : Int) (l : List Int) (hm : m.length ≤ 17592186043904) (hf : ¬ (syf N m p).1 = 0) : FnC Tryd.prog 12 [gp N m, .int .i64 p, .list (il l)] (.bool true) := by
  refine fnc_of tab_ok Tryd.func12 rfl (by kernel_rfl) (by rw [Tryd.ntmps12]; exact Nat.le_add_left 3 _) ?_; rw [Tryd.ntmps12]
  refine qm ?_
  refine hk_region fun K hK => runs_eval tab_ok ?_
  simp only [ev0, evA, evB, evP, fl, gp, tab, simprocAttr, reduceCtorEq, reduceIte]
  refine fin_run ?_ (hK _ ?_) <;> clear hK <;> clear K
  · (first | exact trivial | omega | (simp only [In64] at *; omega) | (simp [In64] at *; omega) | (simp_all; done) | skip)
  refine qa (qm (qm ?_))
  refine hk_region fun K hK => runs_eval tab_ok ?_
  simp only [ev0, evA, evB, evP, fl, gp, tab, simprocAttr, reduceCtorEq, reduceIte]
  refine fin_stop trivial (runs_call (begun_y) rfl rfl rfl (by simp only [dstOk, Nat.reduceLT]) (by repeat (first | exact trivial | constructor)) (runs_eval tab_ok ?_))
  simp only [ev0, evA, evB, evP, fl, gp, tab, simprocAttr, reduceCtorEq, reduceIte]
  refine fin_run trivial (hK _ ?_) <;> clear hK <;> clear K
  refine qa ?_
  refine hk_cond rfl (fun hC1 => ?_) (fun hC1 => ?_)
  · cases hC1
  · (try simp only [nhs] at hC1)
    refine qh (qa (qm (qm ?_)))
    refine hk_region fun K hK => runs_eval tab_ok ?_
    simp only [ev0, evA, evB, evP, fl, gp, tab, simprocAttr, reduceCtorEq, reduceIte, decide_eq_false hf]
    refine fin_stop trivial (runs_call (primeFault_c N m p (by omega)) rfl rfl rfl (by simp only [dstOk, Nat.reduceLT]) (by repeat (first | exact trivial | constructor)) (runs_eval tab_ok ?_))
    simp only [ev0, evA, evB, evP, fl, gp, tab, simprocAttr, reduceCtorEq, reduceIte, decide_eq_false hf]
    refine fin_run ?_ (hK _ ?_) <;> clear hK <;> clear K
    · (first | exact trivial | omega | (simp only [In64] at *; omega) | (simp [In64] at *; omega) | (simp_all; done) | skip)
    refine qa ?_
    refine hk_cond rfl (fun hC2 => ?_) (fun hC2 => ?_)
    · (try simp only [nhs] at hC2)
      refine qm ?_
      refine hk_region fun K hK => runs_eval tab_ok ?_
      simp only [ev0, evA, evB, evP, fl, gp, tab, simprocAttr, reduceCtorEq, reduceIte]
      refine fin_run trivial (hK _ ?_) <;> clear hK <;> clear K
      refine qa (qk (qb ?_))
      simp only [Tryd.results12, enA, ev0, evA, evB, evP, fl, gp, tab, simprocAttr, reduceCtorEq, reduceIte]
      all_goals ((first | exact rfl | exact ⟨rfl, rfl⟩ | exact ⟨rfl, rfl, rfl⟩ | exact ⟨trivial, rfl⟩ | exact ⟨Nat.le_refl _, rfl⟩ | trivial | (simp; done)))
    · cases hC2
theorem sylowFrattini_f (h : GT n m n e) (hP : isPr P) (l : List Int) (hl : l.length ≤ 17592186043904) (hf : ¬ (sf n m l).1 = 0) : FnC Tryd.prog 12 [gp n m, .int .i64 P, .list (il l)] (.bool true) := by
  have hb := h.2.1.big
  have hml := h.2.1.len
  have hsq := sq_le hb
  refine fnc_of tab_ok Tryd.func12 rfl (by kernel_rfl) (by rw [Tryd.ntmps12]; exact Nat.le_add_left 3 _) ?_; rw [Tryd.ntmps12]
  refine qm ?_
  refine hk_region fun K hK => runs_eval tab_ok ?_
  simp only [ev0, evA, evB, evP, fl, gp, tab, simprocAttr, reduceCtorEq, reduceIte]
  refine fin_run ?_ (hK _ ?_) <;> clear hK <;> clear K
  · (first | exact trivial | omega | (simp only [In64] at *; omega) | (simp [In64] at *; omega) | (simp_all; done) | skip)
  refine qa (qm (qm ?_))
  refine hk_region fun K hK => runs_eval tab_ok ?_
  simp only [ev0, evA, evB, evP, fl, gp, tab, simprocAttr, reduceCtorEq, reduceIte]
  refine fin_stop trivial (runs_call (begun_y) rfl rfl rfl (by simp only [dstOk, Nat.reduceLT]) (by repeat (first | exact trivial | constructor)) (runs_eval tab_ok ?_))
  simp only [ev0, evA, evB, evP, fl, gp, tab, simprocAttr, reduceCtorEq, reduceIte]
  refine fin_run trivial (hK _ ?_) <;> clear hK <;> clear K
  refine qa ?_
  refine hk_cond rfl (fun hC1 => ?_) (fun hC1 => ?_)
  · cases hC1
  · (try simp only [nhs] at hC1)
    refine qh (qa (qm (qm ?_)))
    refine hk_region fun K hK => runs_eval tab_ok ?_
    simp only [ev0, evA, evB, evP, fl, gp, tab, simprocAttr, reduceCtorEq, reduceIte, syf_of h hP]
    refine fin_stop trivial (runs_call (primeFault_c n m P (by omega)) rfl rfl rfl (by simp only [dstOk, Nat.reduceLT]) (by repeat (first | exact trivial | constructor)) (runs_eval tab_ok ?_))
    simp only [ev0, evA, evB, evP, fl, gp, tab, simprocAttr, reduceCtorEq, reduceIte, syf_of h hP]
    refine fin_run ?_ (hK _ ?_) <;> clear hK <;> clear K
    · (first | exact trivial | omega | (simp only [In64] at *; omega) | (simp [In64] at *; omega) | (simp_all; done) | skip)
    refine qa ?_
    refine hk_cond rfl (fun hC2 => ?_) (fun hC2 => ?_)
    · cases hC2
    · (try simp only [nhs] at hC2)
      refine qh (qa (qm ?_))
      refine hk_region fun K hK => runs_eval tab_ok ?_
      simp only [ev0, evA, evB, evP, fl, gp, tab, simprocAttr, reduceCtorEq, reduceIte]
      refine fin_stop trivial (runs_call (closure_no n m l (by omega) (by omega) hf) rfl rfl rfl (by simp only [dstOk, Nat.reduceLT]) (by repeat (first | exact trivial | constructor)) (runs_eval tab_ok ?_))
      simp only [ev0, evA, evB, evP, fl, gp, tab, simprocAttr, reduceCtorEq, reduceIte]
      refine fin_run ?_ (hK _ ?_) <;> clear hK <;> clear K
      · (first | exact trivial | omega | (simp only [In64] at *; omega) | (simp [In64] at *; omega) | (simp_all; done) | skip)
      refine qa (qm (qm ?_))
      refine hk_region fun K hK => runs_eval tab_ok ?_
      simp only [ev0, evA, evB, evP, fl, gp, tab, simprocAttr, reduceCtorEq, reduceIte, decide_eq_false hf]
      refine fin_run ?_ (hK _ ?_) <;> clear hK <;> clear K
      · (first | exact trivial | omega | (simp only [In64] at *; omega) | (simp [In64] at *; omega) | (simp_all; done) | skip)
      refine qa ?_
      refine hk_cond rfl (fun hC3 => ?_) (fun hC3 => ?_)
      · (try simp only [nhs] at hC3)
        refine qm ?_
        refine hk_region fun K hK => runs_eval tab_ok ?_
        simp only [ev0, evA, evB, evP, fl, gp, tab, simprocAttr, reduceCtorEq, reduceIte]
        refine fin_run trivial (hK _ ?_) <;> clear hK <;> clear K
        refine qa (qk (qb ?_))
        simp only [Tryd.results12, enA, ev0, evA, evB, evP, fl, gp, tab, simprocAttr, reduceCtorEq, reduceIte]
        all_goals ((first | exact rfl | exact ⟨rfl, rfl⟩ | exact ⟨rfl, rfl, rfl⟩ | exact ⟨trivial, rfl⟩ | exact ⟨Nat.le_refl _, rfl⟩ | trivial | (simp; done)))
      · cases hC3
set_option maxHeartbeats 4000000 in
set_option maxRecDepth 100000 in
theorem sylowFrattini_ok (h : GT n m n e) (hP : isPr P) (l : List Int) (hf : (sf n m l).1 = 0) : FnC Tryd.prog 12 [gp n m, .int .i64 P, .list (il l)] (.bool true) := by
  have G := h.2.2
  have hb := h.2.1.big
  have hml := h.2.1.len
  have hsq := sq_le hb
  obtain ⟨n', e', hl1, hl2, hl3, hl4⟩ := sf_ok hf
  obtain rfl : n' = n := by have := hl1.1; omega
  generalize tst l = p at hl3
  subst hl3
  obtain ⟨q, hq⟩ := gen_ex n' (op m n') e (cup n' (op m n') e p)
  have hqs := gen_sub G hq
  have hqn := G.gen_nml (G.cup_nml p) hq
  have hlq := thl_le n' q
  have hT := pt_GT h hqs
  obtain ⟨s, SL, j, t, hY, hS, hpos, hv0, hr0, hA, hC⟩ := sy_all hT hP
  have hY2 := hY.cong (ptb_grp G hqs) (pt_op (op m n'))
  have hsl := sql_len SL
  have hSl := hS.len
  have hg := ll_get (ls := sql SL) (i := 0) (by omega)
  rw [hr0] at hg
  have hls := thl_le (thl n' q).length s
  have hSub := upt_sub G hqs hY2.sub
  have hfin := upt_list (n := n') q s n' (Nat.le_refl _)
  have hpn : pix q n' = (thl n' q).length := rfl
  rw [hpn] at hfin
  have hlz := thl_le n' (nzr n' (op m n') e (upt q s))
  have htr := thl_true n'
  generalize hTL : thl (thl n' q).length s = TL at hg hls hfin
  have hent : ∀ i, i < TL.length → ∃ y, y < (thl n' q).length ∧ TL.getD i 0 = (y : Int) := fun i hi => by
    rw [← hTL] at hi ⊢
    obtain ⟨y, y1, _, y3⟩ := thl_get hi
    exact ⟨y, y1, y3⟩
  refine fnc_of tab_ok Tryd.func12 rfl (by kernel_rfl) (by rw [Tryd.ntmps12]; exact Nat.le_add_left 3 _) ?_; rw [Tryd.ntmps12]
  refine qm ?_
  refine hk_region fun K hK => runs_eval tab_ok ?_
  simp only [ev0, evA, evB, evP, fl, gp, tab, simprocAttr, reduceCtorEq, reduceIte]
  refine fin_run ?_ (hK _ ?_) <;> clear hK <;> clear K
  · (first | exact trivial | omega | (simp only [In64] at *; omega) | (simp [In64] at *; omega) | (simp_all; done) | skip)
  refine qa (qm (qm ?_))
  refine hk_region fun K hK => runs_eval tab_ok ?_
  simp only [ev0, evA, evB, evP, fl, gp, tab, simprocAttr, reduceCtorEq, reduceIte]
  refine fin_stop trivial (runs_call (begun_y) rfl rfl rfl (by simp only [dstOk, Nat.reduceLT]) (by repeat (first | exact trivial | constructor)) (runs_eval tab_ok ?_))
  simp only [ev0, evA, evB, evP, fl, gp, tab, simprocAttr, reduceCtorEq, reduceIte]
  refine fin_run trivial (hK _ ?_) <;> clear hK <;> clear K
  refine qa ?_
  refine hk_cond rfl (fun hC1 => ?_) (fun hC1 => ?_)
  · cases hC1
  · (try simp only [nhs] at hC1)
    refine qh (qa (qm (qm ?_)))
    refine hk_region fun K hK => runs_eval tab_ok ?_
    simp only [ev0, evA, evB, evP, fl, gp, tab, simprocAttr, reduceCtorEq, reduceIte, syf_of h hP]
    refine fin_stop trivial (runs_call (primeFault_c n' m P (by omega)) rfl rfl rfl (by simp only [dstOk, Nat.reduceLT]) (by repeat (first | exact trivial | constructor)) (runs_eval tab_ok ?_))
    simp only [ev0, evA, evB, evP, fl, gp, tab, simprocAttr, reduceCtorEq, reduceIte, syf_of h hP]
    refine fin_run ?_ (hK _ ?_) <;> clear hK <;> clear K
    · (first | exact trivial | omega | (simp only [In64] at *; omega) | (simp [In64] at *; omega) | (simp_all; done) | skip)
    refine qa ?_
    refine hk_cond rfl (fun hC2 => ?_) (fun hC2 => ?_)
    · cases hC2
    · (try simp only [nhs] at hC2)
      refine qh (qa (qm ?_))
      refine hk_region fun K hK => runs_eval tab_ok ?_
      simp only [ev0, evA, evB, evP, fl, gp, tab, simprocAttr, reduceCtorEq, reduceIte]
      refine fin_stop trivial (runs_call (closure_ok h p q hq) rfl rfl rfl (by simp only [dstOk, Nat.reduceLT]) (by repeat (first | exact trivial | constructor)) (runs_eval tab_ok ?_))
      simp only [ev0, evA, evB, evP, fl, gp, tab, simprocAttr, reduceCtorEq, reduceIte]
      refine fin_run ?_ (hK _ ?_) <;> clear hK <;> clear K
      · (first | exact trivial | omega | (simp only [In64] at *; omega) | (simp [In64] at *; omega) | (simp_all; done) | skip)
      refine qa (qm (qm ?_))
      refine hk_region fun K hK => runs_eval tab_ok ?_
      simp only [ev0, evA, evB, evP, fl, gp, tab, simprocAttr, reduceCtorEq, reduceIte]
      refine fin_run ?_ (hK _ ?_) <;> clear hK <;> clear K
      · (first | exact trivial | omega | (simp only [In64] at *; omega) | (simp [In64] at *; omega) | (simp_all; done) | skip)
      refine qa ?_
      refine hk_cond rfl (fun hC3 => ?_) (fun hC3 => ?_)
      · cases hC3
      · (try simp only [nhs] at hC3)
        refine qh (qa (qm ?_))
        refine hk_region fun K hK => runs_eval tab_ok ?_
        simp only [ev0, evA, evB, evP, fl, gp, tab, simprocAttr, reduceCtorEq, reduceIte]
        refine fin_stop trivial (runs_call (part_ok h q hqs) rfl rfl rfl (by simp only [dstOk, Nat.reduceLT]) (by repeat (first | exact trivial | constructor)) (runs_eval tab_ok ?_))
        simp only [ev0, evA, evB, evP, fl, gp, tab, simprocAttr, reduceCtorEq, reduceIte]
        refine fin_run ?_ (hK _ ?_) <;> clear hK <;> clear K
        · (first | exact trivial | omega | (simp only [In64] at *; omega) | (simp [In64] at *; omega) | (simp_all; done) | skip)
        refine qa (qm (qm ?_))
        refine hk_region fun K hK => runs_eval tab_ok ?_
        simp only [ev0, evA, evB, evP, fl, gp, tab, simprocAttr, reduceCtorEq, reduceIte]
        refine fin_run ?_ (hK _ ?_) <;> clear hK <;> clear K
        · (first | exact trivial | omega | (simp only [In64] at *; omega) | (simp [In64] at *; omega) | (simp_all; done) | skip)
        refine qa ?_
        refine hk_cond rfl (fun hC4 => ?_) (fun hC4 => ?_)
        · cases hC4
        · (try simp only [nhs] at hC4)
          refine qh (qa (qm ?_))
          refine hk_region fun K hK => runs_eval tab_ok ?_
          simp only [ev0, evA, evB, evP, fl, gp, tab, simprocAttr, reduceCtorEq, reduceIte]
          refine fin_stop trivial (runs_call (hA) rfl rfl rfl (by simp only [dstOk, Nat.reduceLT]) (by repeat (first | exact trivial | constructor)) (runs_eval tab_ok ?_))
          simp only [ev0, evA, evB, evP, fl, gp, tab, simprocAttr, reduceCtorEq, reduceIte]
          refine fin_run ?_ (hK _ ?_) <;> clear hK <;> clear K
          · (first | exact trivial | omega | (simp only [In64] at *; omega) | (simp [In64] at *; omega) | (simp_all; done) | skip)
          refine qa (qm (qm ?_))
          refine hk_region fun K hK => runs_eval tab_ok ?_
          simp only [ev0, evA, evB, evP, fl, gp, tab, simprocAttr, reduceCtorEq, reduceIte, ll_length, hsl, decide_eq_false (show ¬ ((SL.length : Int) < 1) by omega)]
          refine fin_run ?_ (hK _ ?_) <;> clear hK <;> clear K
          · (first | exact trivial | omega | (simp only [In64] at *; omega) | (simp [In64] at *; omega) | (simp_all; done) | skip)
          refine qa ?_
          refine hk_cond rfl (fun hC5 => ?_) (fun hC5 => ?_)
          · cases hC5
          · (try simp only [nhs] at hC5)
            refine qh (qa (qm ?_))
            refine hk_region fun K hK => runs_eval tab_ok ?_
            simp only [ev0, evA, evB, evP, fl, gp, tab, simprocAttr, reduceCtorEq, reduceIte]
            refine fin_run trivial (hK _ ?_) <;> clear hK <;> clear K
            refine qa (qm (qm ?_))
            refine hk_own0 11 rfl ?_
            refine hk_region fun K hK => runs_eval tab_ok ?_
            simp only [ev0, evA, evB, evP, fl, gp, tab, simprocAttr, reduceCtorEq, reduceIte]
            refine fin_run trivial (hK _ ?_) <;> clear hK <;> clear K
            refine qa (ql ?_)
            refine hk_loop (ι := Nat) (fun i => ⟨119, [(3, .ptr 0 0), (7, .ptr 1 0), (8, .ptr 2 0), (10, .p (.list (ll (sql SL)))), (11, .sl 3 0 ((TL.take i).map (plv n' q)).length), (12, .p (.int .i64 i))], [.own [.p (.int .i64 n'), .p (.list (il m))], .own [.p (.list (il (thl n' q)))], .own [.p (.int .i64 0), .p (.int .i64 0)], .own (ol ((TL.take i).map (plv n' q)))]⟩) (fun i => i ≤ TL.length) (fun i => TL.length - i) 0 (Nat.zero_le _) [0, 1, 2, 4] (by simp only [leq, leA, ev0, evA, evB, evP, fl, gp, tab, simprocAttr, reduceCtorEq, reduceIte] <;> first | trivial | simp [ol_nil] | omega) fun i hi => ?_
            have hml2 : ((TL.take i).map (plv n' q)).length = i := by rw [List.length_map, List.length_take]; omega
            refine qm (qm ?_)
            refine hk_region fun K hK => runs_eval tab_ok ?_
            simp only [ev0, evA, evB, evP, fl, gp, tab, simprocAttr, reduceCtorEq, reduceIte, hg, ll_length, hsl, il_length]
            refine fin_run ?_ (hK _ ?_) <;> clear hK <;> clear K
            · omega
            refine qa ?_
            refine hk_cond rfl (fun hC6 => ?_) (fun hC6 => ?_)
            · (try simp only [nhs] at hC6)
              have hil : i < TL.length := by omega
              obtain ⟨y, y1, y2⟩ := hent i hil
              have hs : (TL.take (i + 1)).map (plv n' q) = (TL.take i).map (plv n' q) ++ [(thl n' q).getD y 0] := by
                rw [take_snoc hil, List.map_append, y2]
                simp [plv]
              refine qh (qa (qm (ql (qm (qm ?_)))))
              refine hk_draw mixed (by kernel_rfl) fun K hK => runs_eval tab_ok ?_
              simp only [ev0, evA, evB, evP, fl, gp, tab, simprocAttr, reduceCtorEq, reduceIte, hg, ll_length, hsl, il_length, il_get hil, y2, decide_eq_false (show ¬ ((y : Int) < 0) by omega), decide_eq_false (show ¬ ((y : Int) ≥ ((thl n' q).length : Int)) by omega)]
              refine fin_run ?_ (hK _ ?_) <;> clear hK <;> clear K
              · (first | exact trivial | omega | (simp only [In64] at *; omega) | (simp [In64] at *; omega) | (simp_all; done) | skip)
              refine qa ?_
              refine hk_cond rfl (fun hC7 => ?_) (fun hC7 => ?_)
              · cases hC7
              · (try simp only [nhs] at hC7)
                refine qh (qa ?_)
                refine hk_draw mixed (by kernel_rfl) fun K hK => runs_eval tab_ok ?_
                simp only [ev0, evA, evB, evP, fl, gp, tab, simprocAttr, reduceCtorEq, reduceIte, hg, ll_length, hsl, il_length, il_get hil, y2, il_get y1]
                refine fin_run ?_ (hK _ ?_) <;> clear hK <;> clear K
                · (first | exact trivial | omega | (simp only [In64] at *; omega) | (simp [In64] at *; omega) | (simp_all; done) | skip)
                refine qd (qa ?_)
                refine hk_region fun K hK => runs_eval tab_ok ?_
                simp only [ev0, evA, evB, evP, fl, gp, tab, simprocAttr, reduceCtorEq, reduceIte]
                refine fin_run ?_ (hK _ ?_) <;> clear hK <;> clear K
                · (first | exact trivial | omega | (simp only [In64] at *; omega) | (simp [In64] at *; omega) | (simp_all; done) | skip)
                refine qa ?_
                refine ⟨i + 1, [0, 1, 2, 4], by omega, by omega, ?_⟩
                rw [hs]
                simp only [leq, leA, ev0, evA, evB, evP, fl, gp, tab, simprocAttr, reduceCtorEq, reduceIte] <;> first | trivial | omega
            · (try simp only [nhs] at hC6)
              have hin : i = TL.length := by omega
              have hfl : (TL.take i).map (plv n' q) = thl n' (upt q s) := by rw [hin, List.take_length]; exact hfin
              rw [hfl]
              refine hk_seal 11 3 rfl rfl ?_
              refine qj (qc (qc (qf (qa (qm ?_)))))
              refine hk_region fun K hK => runs_eval tab_ok ?_
              simp only [ev0, evA, evB, evP, fl, gp, tab, simprocAttr, reduceCtorEq, reduceIte]
              refine fin_stop trivial (runs_call (normaliser_ok h (upt q s) hSub) rfl rfl rfl (by simp only [dstOk, Nat.reduceLT]) (by repeat (first | exact trivial | constructor)) (runs_eval tab_ok ?_))
              simp only [ev0, evA, evB, evP, fl, gp, tab, simprocAttr, reduceCtorEq, reduceIte]
              refine fin_run ?_ (hK _ ?_) <;> clear hK <;> clear K
              · (first | exact trivial | omega | (simp only [In64] at *; omega) | (simp [In64] at *; omega) | (simp_all; done) | skip)
              refine qa (qm (qm ?_))
              refine hk_region fun K hK => runs_eval tab_ok ?_
              simp only [ev0, evA, evB, evP, fl, gp, tab, simprocAttr, reduceCtorEq, reduceIte]
              refine fin_run ?_ (hK _ ?_) <;> clear hK <;> clear K
              · (first | exact trivial | omega | (simp only [In64] at *; omega) | (simp [In64] at *; omega) | (simp_all; done) | skip)
              refine qa ?_
              refine hk_cond rfl (fun hC8 => ?_) (fun hC8 => ?_)
              · cases hC8
              · (try simp only [nhs] at hC8)
                refine qh (qa (qm ?_))
                refine hk_freeze 4 rfl rfl ?_
                refine hk_freeze 1 rfl rfl ?_
                refine hk_pure 13 rfl (Nat.zero_le _) ?_
                refine hk_pure 7 rfl (Nat.zero_le _) ?_
                simp only [hset, List.drop_zero]
                refine hk_draw2 mixed fun K hK => runs2_eval tab_ok ?_
                simp only [evD, ev0, evA, evB, evP, fl, gp, tab, simprocAttr, reduceCtorEq, reduceIte]
                refine fin2_stop trivial (runs2_call (those_c n' m _ _ (oru (nzr n' (op m n') e (upt q s)) q) (by omega) (fun a ha => syFr_c n' (nzr n' (op m n') e (upt q s)) q hb ha)) rfl rfl rfl rfl (by simp only [dstOk, Nat.reduceLT]) (by repeat (first | exact trivial | constructor)) (runs2_eval tab_ok ?_))
                simp only [evD, ev0, evA, evB, evP, fl, gp, tab, simprocAttr, reduceCtorEq, reduceIte]
                refine fin2_stop trivial (runs2_call (made_ok h (oru (nzr n' (op m n') e (upt q s)) q) (fun _ => true) (fun a ha => ⟨fun _ => frattini G hqs hqn hP hY2 ha, fun _ => rfl⟩)) rfl rfl rfl rfl (by simp only [dstOk, Nat.reduceLT]) (by repeat (first | exact trivial | constructor)) (runs2_eval tab_ok ?_))
                simp only [evD, ev0, evA, evB, evP, fl, gp, tab, simprocAttr, reduceCtorEq, reduceIte]
                refine fin2_run ?_ (hK _ _ (by first | kernel_rfl | rfl) ?_) <;> clear hK <;> clear K
                · (first | exact trivial | omega | (simp only [In64] at *; omega) | (simp [In64] at *; omega) | (simp_all; done) | skip)
                refine qa (qm ?_)
                refine hk_region fun K hK => runs_eval tab_ok ?_
                simp only [ev0, evA, evB, evP, fl, gp, tab, simprocAttr, reduceCtorEq, reduceIte, il_length, htr]
                refine fin_run ?_ (hK _ ?_) <;> clear hK <;> clear K
                · (first | exact trivial | omega | (simp only [In64] at *; omega) | (simp [In64] at *; omega) | (simp_all; done) | skip)
                refine qa (qk ?_)
                simp only [Tryd.results12, enA, ev0, evA, evB, evP, fl, gp, tab, simprocAttr, reduceCtorEq, reduceIte]
                all_goals (trace_state)
theorem sylowFrattini_c (N : Int) (m : List Int) (p : Int) (l : List Int) (hm : m.length ≤ 17592186043904) (hl : l.length ≤ 17592186043904) : FnC Tryd.prog 12 [gp N m, .int .i64 p, .list (il l)] (.bool true) := by
  by_cases hf : (syf N m p).1 = 0
  · obtain ⟨n, e, P, h, hP, rfl⟩ := syf_ok hf
    have := h.1; subst this
    by_cases hf2 : (sf n m l).1 = 0
    · exact sylowFrattini_ok h hP l hf2
    · exact sylowFrattini_f h hP l hl hf2
  · exact sylowFrattini_no N m p l hm hf
end
end Go.Proofs.YtjikchbmkodgfaaDoor

/-
  What the listed package-level variable gives a walk: a table of numbers. Conditions: none; written by a program of this repo.
-/
set_option linter.all false
namespace Go.Proofs.YtjikchbmkodgfaaDoor
open Go.Pv Go.ChangeShapes Go.WideShapes Go.ChangeAt Go.WideElems Go.RowKit

theorem own : ownKnob Tryd.prog.godebug = none := by kernel_rfl
theorem laidOut : laidOutB Tryd.prog = true := by kernel_rfl
theorem gG : Tryd.prog.globalNamed "math/bits.deBruijn64tab" = some 0 := by kernel_rfl
theorem tG : (Tryd.prog.globals[0]?).map (·.type) = some 105 := by kernel_rfl
theorem cG : Tryd.prog.cellsOf 5 = 1 := by kernel_rfl
/-- The door's own heap meets the condition. -/
theorem door_met (os : Os) (args : Array Value) : laidMetH Tryd.prog [("math/bits.deBruijn64tab", Rows.laid_math_bits_deBruijn64tab)] ((World.doorLaid Tryd.prog 4000 os).forCall (fun _ _ => 0) ⟨#[], args, []⟩).memory :=
  laidMetH_of_parts3 (fuel := 8) (laidMet_of_run' 8 (by kernel_rfl) (by kernel_rfl)) (by kernel_rfl) (by kernel_rfl)

def convD : DataW Unit → PV
  | .lit (.int k n) => .int k n
  | _ => .nil
def datum : List (DataW Unit) → List PV := List.map convD
theorem glob_datum : (match (Rows.laid_math_bits_deBruijn64tab : DataW Unit) with | .agg l => datum l | _ => []) = glob0 := rfl

theorem laid_ok {W : World} (h : laidMetH Tryd.prog [("math/bits.deBruijn64tab", Rows.laid_math_bits_deBruijn64tab)] W) : LaidW (fun b => b < W.heap.size) W := by
  refine ⟨fun b h => h, fun g l hg => ?_⟩
  have hg2 : g = 0 ∧ l = glob0 := by
    unfold gv at hg
    by_cases e : g = 0
    · subst e; exact ⟨rfl, (Option.some.inj hg).symm⟩
    · have : (g == 0) = false := by simpa using e
      rw [this] at hg; simp at hg
  obtain ⟨rfl, rfl⟩ := hg2
  rw [MakeChecks.laidMetH_plain _ _ _ (by kernel_rfl)] at h
  obtain ⟨ps, ⟨g0, t0, cs0, f0, p0, q0, hg0, ht0, hv0, hd0, _, _⟩, _, _⟩ := h
  obtain rfl := Option.some.inj (gG.symm.trans hg0)
  obtain rfl := Option.some.inj (tG.symm.trans ht0)
  obtain ⟨xs, m1, rfl, hx1, hlen, hn3, hel⟩ := DataW.trod_array Tryd.underlying105 hd0
  have hd1 : Rows.laid_math_bits_deBruijn64tab = DataW.agg (xs.map (·.1)) := congrArg Prod.fst hx1
  have hgl : glob0 = datum (xs.map (·.1)) := by
    rw [← glob_datum, hd1]
  have key : ∀ c (h : c < glob0.length), W.cell? ⟨0, 0 + c, none⟩ = some ((cs0[c]?).getD undef) ∧ Reads (fun b => b < W.heap.size) W glob0[c] ((cs0[c]?).getD undef) := by
    intro c hc
    have hc2 : c < 64 := Nat.lt_of_lt_of_le hc (by decide)
    have hcx : c < xs.length := by omega
    have h1 := hel c hc2
    rw [List.getElem?_eq_getElem hcx] at h1
    obtain ⟨k, e1, e2, _⟩ := DataW.trod_int Tryd.underlying5 h1
    rw [cG] at e1
    have e3 : cs0.toList[c]? = some (.int .u8 k) := by
      have := congrArg (fun l => l[0]?) e1
      simpa [List.getElem?_take, List.getElem?_drop] using this
    have e4 : cs0[c]? = some (.int .u8 k) := by simpa using e3
    have e5 : glob0[c] = .int .u8 k := by
      have : glob0[c]? = (datum (xs.map (·.1)))[c]? := by rw [hgl]
      rw [List.getElem?_eq_getElem hc] at this
      simp only [datum, List.getElem?_map, List.getElem?_eq_getElem hcx, Option.map_some, Option.some.injEq] at this
      exact this.trans (by rw [e2]; rfl)
    refine ⟨?_, ?_⟩
    · rw [e4, Nat.zero_add, World.var?_cell gG hv0 c, e4]; rfl
    · rw [e4]
      exact e5 ▸ (Reads.int .u8 k)
  refine .ptr _ _ _ (fun c => (cs0[c]?).getD undef) ?_ (fun c hc => (key c hc).1) fun c hc => (key c hc).2
  have := (key 0 (by decide)).1
  unfold World.cell? at this
  rcases Nat.lt_or_ge 0 W.heap.size with h | h
  · exact h
  · exfalso
    rw [Array.getElem?_eq_none h] at this
    simp at this
end Go.Proofs.YtjikchbmkodgfaaDoor
