/-
  Ghost steps; contracts of functions that hand out rows of their own. Conditions: none; a library text.
-/
import Derived.Test.YtllompejbfbabaaDoorPvP
set_option linter.all false
namespace Go.Pv
open Go.RowKit

section
variable {P : Program} {T : TypeId → Option TI} {C : Ctx} {m : Map} {s : St} {tmps : Array Value} {w : World} {Q : Exit → St → Prop}

/-- A block is written no more: what it holds is pure from now on. -/
theorem Rel.freeze (R : Rel C m s tmps w) {k : Nat} {c : List AV} {ps : List PV} (hk : hget s.H k = .own c) (hc : allP c = some ps) : Rel C m { s with H := hset s.H k (.fro ps) } tmps w := by
  have hk := hget_mut hk
  have hkl : k < s.H.length := (List.getElem?_eq_some_iff.1 hk).1
  have hcs := allP_some hc
  have hget : ∀ (j : Nat) (b : Blk), (hset s.H k (.fro ps))[j]? = some b → (j = k ∧ b = .fro ps) ∨ (j ≠ k ∧ s.H[j]? = some b) := by
    intro j b h
    rw [hset_get] at h
    by_cases e : j = k
    · rw [if_pos ⟨e, hkl⟩] at h; exact .inl ⟨e, (Option.some.inj h).symm⟩
    · rw [if_neg (by simp [e])] at h; exact .inr ⟨e, h⟩
  have own : ∀ (j : Nat) (d : List AV), (hset s.H k (.fro ps))[j]? = some (.own d) → j ≠ k ∧ s.H[j]? = some (.own d) := by
    intro j d h
    rcases hget j _ h with ⟨_, h⟩ | h
    · cases h
    · exact h
  have hok : ∀ b, OK C m s.H w b → ∀ j d l, (hset s.H k (.fro ps))[j]? = some (.own d) → m j = some l → l.g ≠ b := fun b hb j d l h hl => hb.2.2 j d l (own j d h).2 hl
  have ho : ∀ b, OK C m s.H w b → OK C m (hset s.H k (.fro ps)) w b := fun b h => ⟨h.1, h.2.1, hok b h⟩
  refine R.heap (Below.refl _ _) (by simp [hset_length]) (fun _ _ => rfl) hok (fun _ _ => rfl) ?_ ?_ ?_
  · exact fun j j' c1 c2 l1 l2 h1 h2 h3 h4 h5 => R.inj j j' c1 c2 l1 l2 (own j _ h1).2 (own j' _ h2).2 h3 h4 h5
  · exact fun j d h => (R.blk j d (own j d h).2).ext (fun p v h => h.ext ho fun _ _ => rfl) (by simp [hset_length]) (fun _ _ => rfl) rfl fun _ _ => rfl
  · intro j d h
    rcases hget j _ h with ⟨rfl, h'⟩ | ⟨hne, h⟩
    · cases h'
      rcases R.blk j c hk with ⟨hc0, hn⟩ | ⟨l, cur, e, hl, hB, hg, h1, h2, h3, hcells⟩
      · subst hc0
        exact .inl ⟨by simpa using hcs, hn⟩
      · have hlen : c.length = ps.length := by rw [hcs]; simp
        refine .inr ⟨l, fun i => cur.getD (l.o + i) undef, hl, ⟨.inr hB, (Array.getElem?_eq_some_iff.1 hg).1, fun j' d' l' h' hl' e' => ?_⟩, by omega, fun i hi => ⟨cell_of hg (by omega), ?_⟩⟩
        · obtain ⟨h1, h2⟩ := own j' d' h'
          exact h1 (R.inj j' j d' c l' l h2 hk hl' hl e')
        · have := hcells i (by omega)
          have e : c[i]'(by omega) = .p ps[i] := by simp [hcs]
          rw [e] at this
          exact this.p_inv.mono ho
    · exact (R.fro j d h).ext ho (fun _ _ => rfl) rfl

theorem hk_freeze {c : Code} (k : Nat) {b : List AV} {ps : List PV} (hk : hget s.H k = .own b) (hc : allP b = some ps) (h : Holds P c Q { s with H := hset s.H k (.fro ps) }) : Holds P c Q s :=
  fun C m a w R hd => h C m a w (R.freeze hk hc) hd

/-- What a slot holds is pure: its row has been frozen. -/
theorem Rel.pure (R : Rel C m s tmps w) {t : Nat} {p : Prop} {pv : PV} (h : peekG s.H (s.get t) = some (p, pv, true)) (hp : p) : Rel C m { s with sl := (t, .p pv) :: s.sl } tmps w := by
  refine ⟨R.laid, R.below, R.base, R.size, R.inj, R.blk, R.fro, fun t' => ?_⟩
  by_cases e : t = t'
  · subst e
    have e2 : ({ s with sl := (t, AV.p pv) :: s.sl } : St).get t = .p pv := by simp [St.get, lk]
    rw [e2]
    exact .p _ _ ((peekG_val R (R.slot t) h hp).2 rfl)
  · have e2 : ({ s with sl := (t, AV.p pv) :: s.sl } : St).get t' = s.get t' := by simp [St.get, lk, show (t == t') = false by simpa using e]
    rw [e2]
    exact R.slot t'

theorem hk_pure {c : Code} (t : Nat) {p : Prop} {pv : PV} (hk : peekG s.H (s.get t) = some (p, pv, true)) (hp : p) (h : Holds P c Q { s with sl := (t, .p pv) :: s.sl }) : Holds P c Q s :=
  fun C m a w R hd => h C m a w (R.pure hk hp) hd

theorem pc_int (k : IntKind) (i : Int) : (PV.int k i).cells = [.int k i] := rfl
theorem pc_bool (b : Bool) : (PV.bool b).cells = [.bool b] := rfl
theorem pc_str (b : ByteArray) : (PV.str b).cells = [.str b] := rfl
theorem pc_list (l : List PV) : (PV.list l).cells = [.list l] := rfl
theorem pc_nn (l : List PV) : (PV.nn l).cells = [.nn l] := rfl
theorem pc_nil : PV.nil.cells = [.nil] := rfl
theorem pc_agg (l : List PV) : (PV.agg l).cells = l := rfl
theorem pc_ptr (l : List PV) : (PV.ptr l).cells = [.ptr l] := rfl
theorem pc_fn (f : FuncId) (l : List PV) : (PV.fn f l).cells = [.fn f l] := rfl
theorem eqv_tt : (true == true) = true := rfl
theorem eqv_tf : (true == false) = false := rfl
theorem eqv_ft : (false == true) = false := rfl
theorem eqv_ff : (false == false) = true := rfl

theorem fin_run {draw : Bool} {all : Array Oper} {K : St → Prop} {vc : Prop} (h1 : vc) (h2 : K s) : fin P draw all K (.run vc s) := ⟨h1, h2⟩
theorem fin_stop {draw : Bool} {all : Array Oper} {K : St → Prop} {vc : Prop} {r : List Oper} (h1 : vc) (h2 : Runs P draw all r K s) : fin P draw all K (.stop vc r s) := ⟨h1, h2⟩

/-- Roads that meet: what is known where they meet. -/
theorem hk_cut {x y : Code} {Q2 : Exit → St → Prop} (S : St) (h1 : Holds P x (fun e s' => e = .normal ∧ ∃ π, Le π S s') s) (h2 : Holds P y Q2 S) : Holds P x (Thn (Holds P y Q2) Q) s := by
  refine hk_mono (fun e s' h => ?_) h1
  obtain ⟨rfl, π, h⟩ := h
  exact hk_le π h h2

/-! ### Rows of numbers -/

def il (w : List Int) : List PV := w.map (PV.int .i64)

theorem il_length (w : List Int) : (il w).length = w.length := by simp [il]
theorem il_get {w : List Int} {i : Nat} (h : i < w.length) : (il w).getD i default = .int .i64 (w.getD i 0) := by
  simp [il, List.getD, List.getElem?_eq_getElem h]
theorem il_all (w : List Int) : (il w).all PV.one = true := by
  simp [il, PV.one]
theorem il_cells (w : List Int) : (il w).all (fun x => x.cells.length == 1) = true := by
  simp [il, PV.cells]
theorem il_take (w : List Int) (n : Nat) : (il w).take n = il (w.take n) := by simp [il]
theorem il_drop (w : List Int) (n : Nat) : (il w).drop n = il (w.drop n) := by simp [il]
theorem il_append (v w : List Int) : il v ++ il w = il (v ++ w) := by simp [il]
theorem il_nil : il [] = [] := rfl
theorem il_cons (x : Int) (w : List Int) : il (x :: w) = .int .i64 x :: il w := rfl

/-- A row of numbers, in a block. -/
def ol (w : List Int) : List AV := (il w).map .p

theorem ol_length (w : List Int) : (ol w).length = w.length := by simp [ol, il]
theorem ol_get {w : List Int} {i : Nat} (h : i < w.length) (d : AV) : (ol w).getD i d = .p (.int .i64 (w.getD i 0)) := by
  simp [ol, il, List.getD, List.getElem?_eq_getElem h]
theorem ol_take (w : List Int) (n : Nat) : (ol w).take n = ol (w.take n) := by simp [ol, il]
theorem ol_drop (w : List Int) (n : Nat) : (ol w).drop n = ol (w.drop n) := by simp [ol, il]
theorem ol_append (v w : List Int) : ol v ++ ol w = ol (v ++ w) := by simp [ol, il]
theorem ol_snoc (v : List Int) (x : Int) : ol v ++ [.p (.int .i64 x)] = ol (v ++ [x]) := by simp [ol, il]
theorem ol_nil : ol [] = [] := rfl
theorem ol_cons (x : Int) (w : List Int) : ol (x :: w) = .p (.int .i64 x) :: ol w := rfl
theorem ol_ok (w : List Int) : (ol w).all cellOk = true := by simp [ol, il, cellOk, PV.one]
theorem ol_ren (w : List Int) (π : List Nat) : (ol w).map (Go.Pv.ren π) = ol w := by simp [ol, il, Go.Pv.ren, ren1]
theorem ol_sc (w : List Int) (n : Nat) : (ol w).all (scA n) = true := by simp [ol, il, scA, sc1]
theorem ol_allP (w : List Int) : allP (ol w) = some (il w) := by
  induction w with
  | nil => rfl
  | cons x r ih => simp only [ol_cons, allP, ih, Option.map_some, il_cons]
theorem il_ol (w : List Int) : (il w).map AV.p = ol w := rfl
theorem ol_set {w : List Int} {i : Nat} (x : Int) : (ol w).set i (.p (.int .i64 x)) = ol (w.set i x) := by
  simp [ol, il, List.map_set]
theorem ol_replicate (n : Nat) : List.replicate n (AV.p (.int .i64 0)) = ol (List.replicate n 0) := by simp [ol, il]
theorem take_len {α : Type} (l : List α) : l.take l.length = l := List.take_length

theorem take_take_len {α : Type} (l : List α) (n : Nat) : l.take (l.take n).length = l.take n := by
  rw [List.length_take, Nat.min_def]; split
  · rfl
  · rw [List.take_of_length_le (Nat.le_refl _), List.take_of_length_le (by omega)]
theorem take_app_len {α : Type} (l r : List α) : (l ++ r).take (l ++ r).length = l ++ r := List.take_length
theorem take_app1 {α : Type} (l : List α) (x : α) : (l ++ [x]).take (l.length + 1) = l ++ [x] := by
  rw [List.take_of_length_le (by simp)]

theorem take_app2 {α : Type} (l r : List α) : (l ++ r).take (l.length + r.length) = l ++ r := by
  rw [List.take_of_length_le (by simp)]

theorem drop_take_len {α : Type} (l : List α) (n : Nat) : (l.drop n).take (l.length - n) = l.drop n := List.take_of_length_le (by simp)
theorem tm_nat (m n : Nat) : Int.tmod (m : Int) (n : Int) = ((m % n : Nat) : Int) := rfl
theorem td_nat (m n : Nat) : Int.tdiv (m : Int) (n : Int) = ((m / n : Nat) : Int) := rfl

theorem tn_pred (a : Nat) : ((a : Int) - 1).toNat = a - 1 := by omega
theorem tn_succ (a : Nat) : ((a : Int) + 1).toNat = a + 1 := by omega
theorem tn_sub (a b : Nat) : ((a : Int) - (b : Int)).toNat = a - b := by omega

/-! ### Functions that hand out rows of their own -/

structure Outs (C : Ctx) (m : Map) (H : Heap) (w : World) (av : AV) (v : Value) : Prop where
  inj : ∀ (k k' : Nat) (c c' : List AV) l l', H[k]? = some (Blk.own c) → H[k']? = some (Blk.own c') → m k = some l → m k' = some l' → l.g = l'.g → k = k'
  blk : ∀ (k : Nat) (c : List AV), H[k]? = some (Blk.own c) → BlkMut C.B (Reads (OK C m H w) w) m H w k c
  fro : ∀ (k : Nat) (c : List PV), H[k]? = some (Blk.fro c) → BlkFro (OK C m H w) w m k c
  val : AVal (Reads (OK C m H w) w) m H av v

def FnG (P : Program) (f : FuncId) (args : List PV) (av : AV) (H : Heap) : Prop :=
  Fun P f ∧ ∀ (okA : Nat → Prop) (w : World) (vals : Array Value), LaidW okA w → vals.size = args.length → (∀ i (h : i < args.length), Reads okA w args[i] (vals.getD i undef)) →
    Calls P f vals w fun e w' => ∃ v m', e = .returned v ∧ Below w.heap.size w w' ∧ Outs ⟨okA, w.heap.size, w⟩ m' H w' av v

/-- The results, at the end: of such a make, over such blocks. -/
def endG (T : TypeId → Option TI) (rs : List ResultVar) (av : AV) (H : Heap) (s : St) : Prop :=
  match rvsA T s rs with
  | some (p, l) => p ∧ ∃ π, mkTup l = ren π av ∧ scA π.length av = true ∧ Le π ⟨s.n, [], H⟩ s
  | none => False

def PostG (T : TypeId → Option TI) (rs : List ResultVar) (av : AV) (H : Heap) : Exit → St → Prop
  | .normal, s => endG T rs av H s
  | .ret, s => endG T rs av H s
  | _, _ => False

theorem rel_entry {P : Program} {f : FuncId} {fn : Func} {args : List PV} {okA : Nat → Prop} {w : World} {vals : Array Value} (_hf : P.funcs[f]? = some fn) (hn : args.length ≤ fn.ntmps) (hok : LaidW okA w) (hsz : vals.size = args.length) (hrd : ∀ i (h : i < args.length), Reads okA w args[i] (vals.getD i undef)) :
    Rel ⟨okA, w.heap.size, w⟩ (fun _ => none) (entry fn.ntmps args) (vals ++ Array.replicate (fn.ntmps - vals.size) undef) w := by
  have hslot : ∀ t, (vals ++ Array.replicate (fn.ntmps - vals.size) undef).getD t undef = if t < vals.size then vals.getD t undef else undef := by
    intro t
    simp only [Array.getD_eq_getD_getElem?]
    by_cases ht : t < vals.size
    · rw [if_pos ht, Array.getElem?_append_left ht]
    · rw [if_neg ht, Array.getElem?_append_right (by omega), Array.getElem?_replicate]
      split <;> rfl
  have hOK : ∀ b, okA b → OK ⟨okA, w.heap.size, w⟩ (fun _ => none) [] w b := fun b hb => ⟨.inl hb, hok.1 b hb, fun k c l h => by simp at h⟩
  refine ⟨⟨hok, rfl⟩, Below.refl _ _, Nat.le_refl _, by simp [entry]; omega, fun k k' c c' l l' h => by simp [entry] at h, fun k c h => by simp [entry] at h, fun k c h => by simp [entry] at h, fun t => ?_⟩
  rw [hslot]
  unfold St.get entry
  simp only
  rw [ent_lk]
  simp only [Nat.zero_le, if_true, Nat.sub_zero]
  by_cases ht : t < args.length
  · rw [List.getElem?_eq_getElem ht, if_pos (by omega)]
    exact .p _ _ ((hrd t ht).mono hOK)
  · rw [List.getElem?_eq_none (by omega)]
    exact .dead _

theorem fng_of (hT : ∀ t ti, T t = some ti → tiOf P t = some ti) {f : FuncId} {fn : Func} {c : Code} {args : List PV} {av : AV} {H : Heap} (hf : P.funcs[f]? = some fn) (hb : fn.body = some c) (hnm : (fn.name == "runtime.NumGoroutine") = false) (hn : args.length ≤ fn.ntmps)
    (h : Holds P c (PostG T fn.results.toList av H) (entry fn.ntmps args)) : FnG P f args av H := by
  refine ⟨⟨fn, hf, hnm, by rw [hb]; rfl⟩, fun okA w vals hok hsz hrd => calls_of_wp hf hb ?_⟩
  have R := rel_entry hf hn hok hsz hrd
  refine wp_mono (h _ _ { tmps := vals ++ Array.replicate (fn.ntmps - vals.size) undef, defers := [] } w R rfl) fun e a' w' ⟨s', m', h1, h2, h3⟩ => ?_
  have fini : endG T fn.results.toList av H s' → a'.defers = [] ∧ ∃ v, (results fn a'.tmps).run P w' = .ok v w' ∧ ∃ v_1 m'', Ending.returned v = .returned v_1 ∧ Below w.heap.size w w' ∧ Outs ⟨okA, w.heap.size, w⟩ m'' H w' av v_1 := by
    intro he
    unfold endG at he
    split at he
    · rename_i p l hl
      obtain ⟨hp, π, hav, hsc, hle⟩ := he
      obtain ⟨vs, e1, e2, e3⟩ := rvsA_run hT h2 fn.results.toList hl hp
      have hv := mkTup_val (w := w') e2 e3
      have R' := h2.weaken hle
      rw [hav] at hv
      have hlen : H.length = π.length := (hle.2.2.1.get).1.symm
      have ho : ∀ b, OK ⟨okA, w.heap.size, w⟩ m' s'.H w' b → OK ⟨okA, w.heap.size, w⟩ (mren m' π) H w' b := by
        refine fun b hb => ⟨hb.1, hb.2.1, fun k c l hk hl => ?_⟩
        obtain ⟨k', a, b'⟩ := (hle.2.2.1.get).2 k _ hk
        simp only [mren, a, Option.bind_some] at hl
        unfold LeB at b'
        simp only at b'
        split at b'
        · rename_i d hd
          exact hb.2.2 k' _ l (hget_mut hd) hl
        · exact b'.elim
      refine ⟨h3, _, ?_, _, _, rfl, h2.below, R'.inj, R'.blk, R'.fro, hv.unren (fun p v h => h.mono ho) hlen hsc⟩
      rw [results_eq, Array.mapM_eq_mapM_toList]
      simp only [Sem.run_bind, Sem.run_map]
      rw [e1]
      simp only [Result.andThen_ok]
      rfl
    · exact he.elim
  cases e with
  | normal => exact fini h1
  | ret => exact fini h1
  | _ => exact h1.elim

/-! ### Who calls such a function -/

def shf (n len : Nat) : List Nat := List.range' n len

def Blk.ren (π : List Nat) : Blk → Blk
  | .own c => .own (c.map (Go.Pv.ren π))
  | b => b

theorem shf_get {n len k : Nat} (h : k < len) : (shf n len).getD k 0 = n + k := by
  simp [shf, List.getD, h]

theorem AVal.shift {rd rd' : PV → Value → Prop} {m m2 : Map} {H H2 : Heap} {n : Nat} (h1 : ∀ p v, rd p v → rd' p v) (h2 : n + H.length ≤ H2.length) (hm : ∀ k, k < H.length → m2 (n + k) = m k) {x : AV} {v : Value} (h : AVal rd m H x v)
    (hx : scA H.length x = true) : AVal rd' m2 H2 (Go.Pv.ren (shf n H.length) x) v := by
  have one : ∀ {x : AV} {v : Value}, AVal rd m H x v → sc1 H.length x = true → AVal rd' m2 H2 (ren1 (shf n H.length) x) v := by
    intro x v h hs
    cases h with
    | dead v => exact .dead v
    | p pv v h => exact .p pv v (h1 _ _ h)
    | sl k lo len v hk h =>
      simp only [ren1, shf_get hk]
      refine .sl _ lo len v (by omega) ?_
      unfold SlOk at *
      rw [hm k hk]; exact h
    | ptr k i v hk h =>
      simp only [ren1, shf_get hk]
      refine .ptr _ i v (by omega) ?_
      unfold PtrOk at *
      rw [hm k hk]; exact h
    | agg l vs hl hr => simp [sc1] at hs
    | tup l vs hl hr => simp [sc1] at hs
  cases x with
  | agg l =>
    cases h with
    | agg _ vs hl hr =>
      refine .agg _ vs (by simpa using hl) fun c hc => ?_
      rw [List.length_map] at hc
      rw [List.getElem_map]
      exact one (hr c hc) ((List.all_eq_true.1 hx) _ (List.getElem_mem hc))
  | tup l =>
    cases h with
    | tup _ vs hl hr =>
      refine .tup _ vs (by simpa using hl) fun c hc => ?_
      rw [List.length_map] at hc
      rw [List.getElem_map]
      exact one (hr c hc) ((List.all_eq_true.1 hx) _ (List.getElem_mem hc))
  | dead => exact .dead v
  | p pv => exact one h hx
  | sl k lo len => exact one h hx
  | ptr k i => exact one h hx

/-- All that the result names is there. -/
def scG (av : AV) (H : Heap) : Bool :=
  scA H.length av && H.all fun | .own c => c.all (scA H.length) | _ => true

theorem Rel.join {okA : Nat → Prop} (R : Rel C m s tmps w) {w' : World} {m' : Map} {av : AV} {H : Heap} {v : Value} (hA : ∀ b, okA b → OK C m s.H w b) (hbl : Below w.heap.size w w') (ho : Outs ⟨okA, w.heap.size, w⟩ m' H w' av v) (hsc : scG av H = true) :
    ∃ m2, Rel C m2 { s with H := s.H ++ H.map (Blk.ren (shf s.H.length H.length)) } tmps w' ∧
      AVal (Reads (OK C m2 (s.H ++ H.map (Blk.ren (shf s.H.length H.length))) w') w') m2 (s.H ++ H.map (Blk.ren (shf s.H.length H.length))) (Go.Pv.ren (shf s.H.length H.length) av) v := by
  obtain ⟨hsa, hsb⟩ := Bool.and_eq_true _ _ ▸ hsc
  let H2 := s.H ++ H.map (Blk.ren (shf s.H.length H.length))
  let m2 : Map := fun k => if k < s.H.length then m k else m' (k - s.H.length)
  have hmo : ∀ k, k < s.H.length → m2 k = m k := fun k h => by simp [m2, h]
  have hmn : ∀ k, m2 (s.H.length + k) = m' k := fun k => by
    show (if _ then _ else _) = _
    rw [if_neg (by omega), Nat.add_sub_cancel_left]
  have hlt : ∀ (k : Nat) (c' : List AV) l, s.H[k]? = some (Blk.own c') → m k = some l → l.g < w.heap.size := by
    intro k c' l h hl
    rcases R.blk k c' h with ⟨_, hn⟩ | ⟨l', cur', e', hl', hB, hg', _⟩
    · rw [hl] at hn; cases hn
    · rw [hl] at hl'; cases hl'
      exact (Array.getElem?_eq_some_iff.1 hg').1
  have hge : ∀ (k : Nat) (c' : List AV) l, H[k]? = some (Blk.own c') → m' k = some l → w.heap.size ≤ l.g := by
    intro k c' l h hl
    rcases ho.blk k c' h with ⟨_, hn⟩ | ⟨l', cur', e', hl', hB, hg', _⟩
    · rw [hl] at hn; cases hn
    · rw [hl] at hl'; cases hl'
      exact hB
  have hget : ∀ (k : Nat) (b : Blk), H2[k]? = some b → (k < s.H.length ∧ s.H[k]? = some b) ∨ ∃ j b', k = s.H.length + j ∧ H[j]? = some b' ∧ b = b'.ren (shf s.H.length H.length) := by
    intro k b h
    by_cases hk : k < s.H.length
    · exact .inl ⟨hk, by rwa [List.getElem?_append_left hk] at h⟩
    · rw [List.getElem?_append_right (by omega), List.getElem?_map] at h
      cases e : H[k - s.H.length]? with
      | none => rw [e] at h; cases h
      | some b' => rw [e] at h; exact .inr ⟨k - s.H.length, b', by omega, e, (Option.some.inj h).symm⟩
  have hown : ∀ (k : Nat) (c : List AV), H2[k]? = some (.own c) → (k < s.H.length ∧ s.H[k]? = some (.own c)) ∨ ∃ j c', k = s.H.length + j ∧ H[j]? = some (.own c') ∧ c = c'.map (Go.Pv.ren (shf s.H.length H.length)) := by
    intro k c h
    rcases hget k _ h with h | ⟨j, b', rfl, h, e⟩
    · exact .inl h
    · cases b' with
      | own c' => simp only [Blk.ren, Blk.own.injEq] at e; exact .inr ⟨j, c', rfl, h, e⟩
      | _ => cases e
  have hok : ∀ b, OK C m s.H w b → ∀ k c l, H2[k]? = some (.own c) → m2 k = some l → l.g ≠ b := by
    intro b hb k c l h hl
    rcases hown k c h with ⟨hk, h⟩ | ⟨j, c', rfl, h, _⟩
    · rw [hmo k hk] at hl; exact hb.2.2 k c l h hl
    · rw [hmn] at hl
      have := hge j c' l h hl
      have := hb.2.1
      omega
  have hOK : ∀ b, OK ⟨okA, w.heap.size, w⟩ m' H w' b → OK C m2 H2 w' b := by
    intro b hb
    refine ⟨?_, hb.2.1, fun k c l h hl => ?_⟩
    · rcases hb.1 with h | h
      · exact (hA b h).1
      · exact .inr (Nat.le_trans R.base h)
    · rcases hown k c h with ⟨hk, h⟩ | ⟨j, c', rfl, h, _⟩
      · rw [hmo k hk] at hl
        rcases hb.1 with h' | h'
        · exact (hA b h').2.2 k c l h hl
        · have := hlt k c l h hl
          simp only at h'
          omega
      · rw [hmn] at hl; exact hb.2.2 j c' l h hl
  have hh : ∀ b, b < w.heap.size → w'.heap[b]? = w.heap[b]? := fun b h => hbl.block b h
  have ho1 : ∀ b, OK C m s.H w b → OK C m2 H2 w' b := fun b h => ⟨h.1, Nat.lt_of_lt_of_le h.2.1 hbl.size, hok b h⟩
  have hlen2 : s.H.length + H.length ≤ H2.length := by simp [H2]
  refine ⟨m2, R.heap (hbl.mono R.base) (by simp) hmo hok (fun b h => hh b h.2.1) ?_ ?_ ?_, ?_⟩
  · intro k k' c c' l l' h1 h2 h3 h4 h5
    rcases hown k c h1 with ⟨hk, h1⟩ | ⟨j, d, rfl, h1, _⟩ <;> rcases hown k' c' h2 with ⟨hk', h2⟩ | ⟨j', d', rfl, h2, _⟩
    · rw [hmo k hk] at h3; rw [hmo k' hk'] at h4
      exact R.inj k k' c c' l l' h1 h2 h3 h4 h5
    · rw [hmo k hk] at h3; rw [hmn] at h4
      have := hlt k c l h1 h3
      have := hge j' d' l' h2 h4
      omega
    · rw [hmn] at h3; rw [hmo k' hk'] at h4
      have := hlt k' c' l' h2 h4
      have := hge j d l h1 h3
      omega
    · rw [hmn] at h3 h4
      rw [ho.inj j j' d d' l l' h1 h2 h3 h4 h5]
  · intro k c h
    rcases hown k c h with ⟨hk, h⟩ | ⟨j, c', rfl, hj, rfl⟩
    · refine (R.blk k c h).ext (fun p v h => h.ext ho1 fun b hb => hh b hb.2.1) (by simp) hmo (hmo k hk) fun l hl => ?_
      exact hh _ (hlt k c l h hl)
    · rcases ho.blk j c' hj with ⟨e, hn⟩ | ⟨l, cur, e, h1, h2, h3, h4, h5, h6, h7⟩
      · exact .inl ⟨by rw [e]; rfl, by rw [hmn]; exact hn⟩
      · refine .inr ⟨l, cur, e, by rw [hmn]; exact h1, Nat.le_trans R.base h2, h3, h4, h5, by simpa using h6, fun i hi => ?_⟩
        rw [List.length_map] at hi
        rw [List.getElem_map]
        have hs : scA H.length c'[i] = true := by
          have := (List.all_eq_true.1 hsb) _ (List.mem_of_getElem? hj)
          exact (List.all_eq_true.1 this) _ (List.getElem_mem hi)
        exact (h7 i hi).shift (fun p v h => h.mono hOK) hlen2 (fun k _ => hmn k) hs
  · intro k c h
    rcases hget k _ h with ⟨hk, h⟩ | ⟨j, b', rfl, h, e⟩
    · exact (R.fro k c h).ext ho1 (fun b hb => hh b hb.2.1) (hmo k hk)
    · cases b' with
      | fro c' =>
        simp only [Blk.ren, Blk.fro.injEq] at e
        subst e
        rcases ho.fro j c h with ⟨e1, e2⟩ | ⟨l, vs, e1, e2, e3, e4⟩
        · exact .inl ⟨e1, by rw [hmn]; exact e2⟩
        · exact .inr ⟨l, vs, by rw [hmn]; exact e1, hOK _ e2, e3, fun i hi => ⟨(e4 i hi).1, (e4 i hi).2.mono hOK⟩⟩
      | _ => cases e
  · exact ho.val.shift (fun p v h => h.mono hOK) hlen2 (fun k _ => hmn k) hsa

theorem call_doesG {o : Oper} {fo : Operand} {args : Array Operand} {ts : Array TypeId} (ho : o.op = .call { callee := .value fo, args := args, argTypes := ts }) {g : FuncId} {as : List PV} {p : Prop} {av : AV} {H : Heap}
    (hc : FnG P g as av H) (hcall : callA s fo args = some (g, as, p, true)) (hp : p) (hsc : scG av H = true) : DoesW P o s (Go.Pv.ren (shf s.H.length H.length) av) (s.H ++ H.map (Blk.ren (shf s.H.length H.length))) := by
  intro C m a w K Q R hK
  unfold callA at hcall
  split at hcall
  · rename_i g' cap hf
    split at hcall <;> simp only [Option.some.injEq, Prod.mk.injEq, reduceCtorEq] at hcall
    rename_i p' pvs b' hpl
    obtain ⟨rfl, rfl, rfl, rfl⟩ := hcall
    have hfv := R.ev fo
    rw [hf] at hfv
    generalize hfe : a.eval fo = fv at hfv
    have hfv := hfv.p_inv
    cases hfv with
    | fn _ _ vs hcl hcr =>
      obtain ⟨⟨fn, hfn, hnm, hbd⟩, hcalls⟩ := hc
      obtain ⟨e1, e2, e3⟩ := peekList_val (C := C) (m := m) (w := w) (H := s.H) (fun {x v p pv b} (hx : AVal (Reads (OK C m s.H w) w) m s.H x v) h hp => peekG_val R hx h hp) (args.toList.map s.ev) (fun c => (args.toList.map a.eval).getD c undef) (fun c hc => by
        simp only [List.length_map] at hc
        have := R.ev (args.toList[c])
        simpa [List.getD, List.getElem?_map, List.getElem?_eq_getElem hc] using this) hpl hp
      simp only [List.length_map] at e1
      have hvals : ∀ i (h : i < (pvs ++ cap).length), (args.map a.eval ++ vs).getD i undef = if i < pvs.length then (args.toList.map a.eval).getD i undef else vs.getD (i - pvs.length) undef := by
        intro i hi
        simp only [Array.getD_eq_getD_getElem?]
        by_cases hip : i < pvs.length
        · rw [if_pos hip, Array.getElem?_append_left (by simp at e1 ⊢; omega)]
          simp [List.getD]
        · rw [if_neg hip, Array.getElem?_append_right (by simp at e1 ⊢; omega)]
          congr 2
          simp at e1 ⊢; omega
      have hrun : (execOp a.eval o).run P w = .ok (.enter g' (args.map a.eval ++ vs)) w := by
        have hnm' : ¬ fn.name = "runtime.NumGoroutine" := by simpa using hnm
        have hbd' : ¬ fn.body = none := by intro e; rw [e] at hbd; simp at hbd
        simp [execOp, ho, resolve, hfe, Deferred.ofValue, invoke, callFunc, hfn, hnm', hbd']
      unfold Oper.wp
      rw [hrun]
      simp only [Oper.upon]
      have hsz : (args.map a.eval ++ vs).size = (pvs ++ cap).length := by simp at e1 ⊢; omega
      refine (hcalls (OK C m s.H w) w _ R.laidOK hsz (fun i hi => ?_)).mono fun e w' ⟨v, m', he, hbl, hv⟩ => ?_
      · rw [hvals i hi]
        by_cases hip : i < pvs.length
        · rw [if_pos hip, List.getElem_append_left hip]; exact e3 rfl i hip
        · rw [if_neg hip, List.getElem_append_right (by omega)]; exact hcr _ (by simp at hi; omega)
      · subst he
        obtain ⟨m2, R2, hv2⟩ := R.join (fun b h => h) hbl hv hsc
        exact hK v m2 w' R2 hv2
  · cases hcall

theorem runs_callG {all : Array Oper} {rest : List Oper} {K : St → Prop} {dst : Option Tmp} {ty : TypeId} {pos : String} {aft : Array Edge} {gd : Option (Nat × Bool)} {fo : Operand} {args : Array Operand} {ts : Array TypeId} {g : FuncId} {as : List PV} {p : Prop} {av : AV} {H : Heap}
    (hc : FnG P g as av H) (hg : guardA all s { dst := dst, op := .call { callee := .value fo, args := args, argTypes := ts }, type := ty, pos := pos, after := aft, guard := gd } = some true)
    (hcall : callA s fo args = some (g, as, p, true)) (hsc : scG av H = true) (hd : dstOk s dst) (hp : p) (h : Runs P false all rest K (({ s with H := s.H ++ H.map (Blk.ren (shf s.H.length H.length)) } : St).put dst (Go.Pv.ren (shf s.H.length H.length) av))) :
    Runs P false all ({ dst := dst, op := .call { callee := .value fo, args := args, argTypes := ts }, type := ty, pos := pos, after := aft, guard := gd } :: rest) K s := by
  obtain ⟨s', hr, hK⟩ := h
  exact ⟨s', .cons (.op s _ _ hg (dstOk_spec hd) (call_doesG rfl hc hcall hp hsc) fun h => by cases h) hr, hK⟩

end

end Go.Pv
