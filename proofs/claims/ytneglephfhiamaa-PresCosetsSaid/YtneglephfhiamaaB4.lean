/-
  Texts of this proof, one behind the other: what each says stands at its head. Conditions: none.
-/
import Derived.Test.YtneglephfhiamaaB3
import Derived.ProofKit
import Derived.OpenShut
import Derived.ChangeCalls
import Derived.SizedLaws
import Derived.Maps.RangeRun

set_option linter.all false
namespace Go.Pv
open Go.RowKit
section
variable {P : Program} {T : TypeId → Option TI} {C : Ctx} {m : Map} {s : St} {tmps : Array Value} {w : World} {Q : Exit → St → Prop}
theorem Rel.freeze (R : Rel C m s tmps w) {k : Nat} {c : List AV} {ps : List PV} (hk : hget s.H k = .own c) (hc : allP c = some ps) : Rel C m { s with H := hset s.H k (.fro ps) } tmps w := by
  have hk := hget_mut hk
  have hkl : k < s.H.length := (List.getElem?_eq_some_iff.1 hk).1
  have hcs := allP_some hc
  have hget : ∀ (j : Nat) (b : Blk), (hset s.H k (.fro ps))[j]? = some b → (j = k ∧ b = .fro ps) ∨ (j ≠ k ∧ s.H[j]? = some b) := by
    intro j b h
    rw [hset_get] at h
    by_cases e : j = k
    · rw [if_pos ⟨e, hkl⟩] at h; exact .inl ⟨e, (Option.some.inj h).symm⟩
    · rw [if_neg (by simp [e])] at h; exact .inr ⟨e, h⟩
  have own : ∀ (j : Nat) (d : List AV), (hset s.H k (.fro ps))[j]? = some (.own d) → j ≠ k ∧ s.H[j]? = some (.own d) := by
    intro j d h
    rcases hget j _ h with ⟨_, h⟩ | h
    · cases h
    · exact h
  have hok : ∀ b, OK C m s.H w b → ∀ j d l, (hset s.H k (.fro ps))[j]? = some (.own d) → m j = some l → l.g ≠ b := fun b hb j d l h hl => hb.2.2 j d l (own j d h).2 hl
  have ho : ∀ b, OK C m s.H w b → OK C m (hset s.H k (.fro ps)) w b := fun b h => ⟨h.1, h.2.1, hok b h⟩
  refine R.heap (BelowP.refl _ _) (by simp [hset_length]) (fun _ _ => rfl) hok (fun _ _ => rfl) ?_ ?_ ?_ (mp_hset rfl)
  · exact fun j j' c1 c2 l1 l2 h1 h2 h3 h4 h5 => R.inj j j' c1 c2 l1 l2 (own j _ h1).2 (own j' _ h2).2 h3 h4 h5
  · exact fun j d h => (R.blk j d (own j d h).2).ext (fun p v h => h.ext ho fun _ _ => rfl) (by simp [hset_length]) (fun _ _ => rfl) rfl fun _ _ => rfl
  · intro j d h
    rcases hget j _ h with ⟨rfl, h'⟩ | ⟨hne, h⟩
    · cases h'
      rcases R.blk j c hk with ⟨hc0, hn⟩ | ⟨l, cur, e, hl, hB, hg, h1, h2, h3, hcells⟩
      · subst hc0
        exact .inl ⟨by simpa using hcs, hn⟩
      · have hlen : c.length = ps.length := by rw [hcs]; simp
        refine .inr ⟨l, fun i => cur.getD (l.o + i) undef, hl, ⟨.inr hB, (Array.getElem?_eq_some_iff.1 hg).1, fun j' d' l' h' hl' e' => ?_⟩, by omega, fun i hi => ⟨cell_of hg (by omega), ?_⟩⟩
        · obtain ⟨h1, h2⟩ := own j' d' h'
          exact h1 (R.inj j' j d' c l' l h2 hk hl' hl e')
        · have := hcells i (by omega)
          have e : c[i]'(by omega) = .p ps[i] := by simp [hcs]
          rw [e] at this
          exact this.p_inv.mono ho
    · exact (R.fro j d h).ext ho (fun _ _ => rfl) rfl
theorem hk_freeze {c : Code} (k : Nat) {b : List AV} {ps : List PV} (hk : hget s.H k = .own b) (hc : allP b = some ps) (h : Holds P c Q { s with H := hset s.H k (.fro ps) }) : Holds P c Q s :=
  fun r ds C m a w R hd => h r ds C m a w (R.freeze hk hc) hd
theorem Rel.pure (R : Rel C m s tmps w) {t : Nat} {p : Prop} {pv : PV} (h : peekG s.H (s.get t) = some (p, pv, true)) (hp : p) : Rel C m { s with sl := (t, .p pv) :: s.sl } tmps w := by
  refine ⟨R.laid, R.below, R.base, R.size, R.inj, R.blk, R.fro, fun t' => ?_, R.mp⟩
  by_cases e : t = t'
  · subst e
    have e2 : ({ s with sl := (t, AV.p pv) :: s.sl } : St).get t = .p pv := by simp [St.get, lk]
    rw [e2]
    exact .p _ _ ((peekG_val R (R.slot t) h hp).2 rfl)
  · have e2 : ({ s with sl := (t, AV.p pv) :: s.sl } : St).get t' = s.get t' := by simp [St.get, lk, show (t == t') = false by simpa using e]
    rw [e2]
    exact R.slot t'
theorem hk_pure {c : Code} (t : Nat) {p : Prop} {pv : PV} (hk : peekG s.H (s.get t) = some (p, pv, true)) (hp : p) (h : Holds P c Q { s with sl := (t, .p pv) :: s.sl }) : Holds P c Q s :=
  fun r ds C m a w R hd => h r ds C m a w (R.pure hk hp) hd
theorem pc_int (k : IntKind) (i : Int) : (PV.int k i).cells = [.int k i] := rfl
theorem pc_bool (b : Bool) : (PV.bool b).cells = [.bool b] := rfl
theorem pc_str (b : ByteArray) : (PV.str b).cells = [.str b] := rfl
theorem pc_list (l : List PV) : (PV.list l).cells = [.list l] := rfl
theorem pc_nn (l : List PV) : (PV.nn l).cells = [.nn l] := rfl
theorem pc_nil : PV.nil.cells = [.nil] := rfl
theorem pc_agg (l : List PV) : (PV.agg l).cells = l := rfl
theorem pc_ptr (l : List PV) : (PV.ptr l).cells = [.ptr l] := rfl
theorem pc_fn (f : FuncId) (l : List PV) : (PV.fn f l).cells = [.fn f l] := rfl
theorem eqv_tt : (true == true) = true := rfl
theorem eqv_tf : (true == false) = false := rfl
theorem eqv_ft : (false == true) = false := rfl
theorem eqv_ff : (false == false) = true := rfl
theorem fin_run {draw : Bool} {all : Array Oper} {K : St → Prop} {vc : Prop} (h1 : vc) (h2 : K s) : fin P draw all K (.run vc s) := ⟨h1, h2⟩
theorem fin_stop {draw : Bool} {all : Array Oper} {K : St → Prop} {vc : Prop} {r : List Oper} (h1 : vc) (h2 : Runs P draw all r K s) : fin P draw all K (.stop vc r s) := ⟨h1, h2⟩
theorem hk_cut {x y : Code} {Q2 : Exit → St → Prop} (S : St) (h1 : Holds P x (fun e s' => e = .normal ∧ ∃ π, Le π S s') s) (h2 : Holds P y Q2 S) : Holds P x (Thn (Holds P y Q2) Q) s := by
  refine hk_mono (fun e s' h => ?_) h1
  obtain ⟨rfl, π, h⟩ := h
  exact hk_le π h h2
def il (w : List Int) : List PV := w.map (PV.int .i64)
theorem il_length (w : List Int) : (il w).length = w.length := by simp [il]
theorem il_get {w : List Int} {i : Nat} (h : i < w.length) : (il w).getD i default = .int .i64 (w.getD i 0) := by
  simp [il, List.getD, List.getElem?_eq_getElem h]
theorem il_all (w : List Int) : (il w).all PV.one = true := by
  simp [il, PV.one]
theorem il_cells (w : List Int) : (il w).all (fun x => x.cells.length == 1) = true := by
  simp [il, PV.cells]
theorem il_take (w : List Int) (n : Nat) : (il w).take n = il (w.take n) := by simp [il]
theorem il_drop (w : List Int) (n : Nat) : (il w).drop n = il (w.drop n) := by simp [il]
theorem il_cons (x : Int) (w : List Int) : il (x :: w) = .int .i64 x :: il w := rfl
def ol (w : List Int) : List AV := (il w).map .p
theorem ol_length (w : List Int) : (ol w).length = w.length := by simp [ol, il]
theorem ol_get {w : List Int} {i : Nat} (h : i < w.length) (d : AV) : (ol w).getD i d = .p (.int .i64 (w.getD i 0)) := by
  simp [ol, il, List.getD, List.getElem?_eq_getElem h]
theorem ol_take (w : List Int) (n : Nat) : (ol w).take n = ol (w.take n) := by simp [ol, il]
theorem ol_drop (w : List Int) (n : Nat) : (ol w).drop n = ol (w.drop n) := by simp [ol, il]
theorem ol_append (v w : List Int) : ol v ++ ol w = ol (v ++ w) := by simp [ol, il]
theorem ol_snoc (v : List Int) (x : Int) : ol v ++ [.p (.int .i64 x)] = ol (v ++ [x]) := by simp [ol, il]
theorem ol_cons (x : Int) (w : List Int) : ol (x :: w) = .p (.int .i64 x) :: ol w := rfl
theorem ol_ok (w : List Int) : (ol w).all cellOk = true := by simp [ol, il, cellOk, PV.one]
theorem ol_ren (w : List Int) (π : List Nat) : (ol w).map (Go.Pv.ren π) = ol w := by simp [ol, il, Go.Pv.ren, ren1]
theorem ol_sc (w : List Int) (n : Nat) : (ol w).all (scA n) = true := by simp [ol, il, scA, sc1]
theorem ol_allP (w : List Int) : allP (ol w) = some (il w) := by
  induction w with
  | nil => rfl
  | cons x r ih => simp only [ol_cons, allP, ih, Option.map_some, il_cons]
theorem il_ol (w : List Int) : (il w).map AV.p = ol w := rfl
theorem ol_set {w : List Int} {i : Nat} (x : Int) : (ol w).set i (.p (.int .i64 x)) = ol (w.set i x) := by
  simp [ol, il, List.map_set]
theorem take_len {α : Type} (l : List α) : l.take l.length = l := List.take_length
theorem take_take_len {α : Type} (l : List α) (n : Nat) : l.take (l.take n).length = l.take n := by
  rw [List.length_take, Nat.min_def]; split
  · rfl
  · rw [List.take_of_length_le (Nat.le_refl _), List.take_of_length_le (by omega)]
theorem take_app1 {α : Type} (l : List α) (x : α) : (l ++ [x]).take (l.length + 1) = l ++ [x] := by
  rw [List.take_of_length_le (by simp)]
theorem take_app2 {α : Type} (l r : List α) : (l ++ r).take (l.length + r.length) = l ++ r := by
  rw [List.take_of_length_le (by simp)]
theorem drop_take_len {α : Type} (l : List α) (n : Nat) : (l.drop n).take (l.length - n) = l.drop n := List.take_of_length_le (by simp)
theorem tm_nat (m n : Nat) : Int.tmod (m : Int) (n : Int) = ((m % n : Nat) : Int) := rfl
theorem td_nat (m n : Nat) : Int.tdiv (m : Int) (n : Int) = ((m / n : Nat) : Int) := rfl
theorem tn_pred (a : Nat) : ((a : Int) - 1).toNat = a - 1 := by omega
theorem tn_succ (a : Nat) : ((a : Int) + 1).toNat = a + 1 := by omega
theorem tn_sub (a b : Nat) : ((a : Int) - (b : Int)).toNat = a - b := by omega
structure Outs (C : Ctx) (m : Map) (H : Heap) (w : World) (av : AV) (v : Value) : Prop where
  inj : ∀ (k k' : Nat) (c c' : List AV) l l', H[k]? = some (Blk.own c) → H[k']? = some (Blk.own c') → m k = some l → m k' = some l' → l.g = l'.g → k = k'
  blk : ∀ (k : Nat) (c : List AV), H[k]? = some (Blk.own c) → BlkMut C.B (Reads (OK C m H w) w) m H w k c
  fro : ∀ (k : Nat) (c : List PV), H[k]? = some (Blk.fro c) → BlkFro (OK C m H w) w m k c
  val : AVal (Reads (OK C m H w) w) m H av v
def FnG (P : Program) (f : FuncId) (args : List PV) (av : AV) (H : Heap) : Prop :=
  Fun P f ∧ ∀ (okA : Nat → Prop) (w : World) (vals : Array Value), LaidW okA w → vals.size = args.length → (∀ i (h : i < args.length), Reads okA w args[i] (vals.getD i undef)) →
    Calls P f vals w fun e w' => ∃ v m', e = .returned v ∧ Below w.heap.size w w' ∧ Outs (fresh okA w) m' H w' av v
def endG (T : TypeId → Option TI) (rs : List ResultVar) (av : AV) (H : Heap) (s : St) : Prop :=
  match rvsA T s rs with
  | some (p, l) => p ∧ ∃ π, mkTup l = ren π av ∧ scA π.length av = true ∧ Le π ⟨s.n, [], H⟩ s
  | none => False
def PostG (T : TypeId → Option TI) (rs : List ResultVar) (av : AV) (H : Heap) : Exit → St → Prop
  | .normal, s => endG T rs av H s
  | .ret, s => endG T rs av H s
  | _, _ => False
theorem rel_entry {P : Program} {f : FuncId} {fn : Func} {args : List PV} {okA : Nat → Prop} {w : World} {vals : Array Value} (_hf : P.funcs[f]? = some fn) (hn : args.length ≤ fn.ntmps) (hok : LaidW okA w) (hsz : vals.size = args.length) (hrd : ∀ i (h : i < args.length), Reads okA w args[i] (vals.getD i undef)) :
    Rel (fresh okA w) (fun _ => none) (entry fn.ntmps args) (vals ++ Array.replicate (fn.ntmps - vals.size) undef) w := by
  have hslot : ∀ t, (vals ++ Array.replicate (fn.ntmps - vals.size) undef).getD t undef = if t < vals.size then vals.getD t undef else undef := by
    intro t
    simp only [Array.getD_eq_getD_getElem?]
    by_cases ht : t < vals.size
    · rw [if_pos ht, Array.getElem?_append_left ht]
    · rw [if_neg ht, Array.getElem?_append_right (by omega), Array.getElem?_replicate]
      split <;> rfl
  have hOK : ∀ b, okA b → OK (fresh okA w) (fun _ => none) [] w b := fun b hb => ⟨.inl hb, hok.1 b hb, fun k c l h => by simp at h⟩
  refine ⟨fun g l hg => (hok.2 g l hg).mono hOK, BelowP.refl _ _, fun _ h => h, by simp [entry]; omega, fun k k' c c' l l' h => by simp [entry] at h, fun k c h => by simp [entry] at h, fun k c h => by simp [entry] at h, fun t => ?_, fun k kk d v h => by simp [entry] at h, fun k k' kk d v kk' d' v' l l' h => by simp [entry] at h, fun k i j h => by simp [entry] at h, fun k r h => by simp [entry] at h, fun k k' r r' l l' h => by simp [entry] at h⟩
  rw [hslot]
  unfold St.get entry
  simp only
  rw [ent_lk]
  simp only [Nat.zero_le, if_true, Nat.sub_zero]
  by_cases ht : t < args.length
  · rw [List.getElem?_eq_getElem ht, if_pos (by omega)]
    exact .p _ _ ((hrd t ht).mono hOK)
  · rw [List.getElem?_eq_none (by omega)]
    exact .dead _
theorem fng_of (hT : ∀ t ti, T t = some ti → tiOf P t = some ti) {f : FuncId} {fn : Func} {c : Code} {args : List PV} {av : AV} {H : Heap} (hf : P.funcs[f]? = some fn) (hb : fn.body = some c) (hnm : (fn.name == "runtime.NumGoroutine") = false) (hn : args.length ≤ fn.ntmps)
    (h : Holds P c (PostG T fn.results.toList av H) (entry fn.ntmps args)) : FnG P f args av H := by
  refine ⟨⟨fn, hf, hnm, by rw [hb]; rfl⟩, fun okA w vals hok hsz hrd => calls_of_wp hf hb (wpR_none.1 ?_)⟩
  have R := rel_entry hf hn hok hsz hrd
  refine wpR_mono (h none [] _ _ { tmps := vals ++ Array.replicate (fn.ntmps - vals.size) undef, defers := [] } w R rfl) fun e a' w' ⟨s', m', h1, h2, h3⟩ => ?_
  have fini : endG T fn.results.toList av H s' → a'.defers = [] ∧ ∃ v, (results fn a'.tmps).run P w' = .ok v w' ∧ ∃ v_1 m'', Ending.returned v = .returned v_1 ∧ Below w.heap.size w w' ∧ Outs (fresh okA w) m'' H w' av v_1 := by
    intro he
    unfold endG at he
    split at he
    · rename_i p l hl
      obtain ⟨hp, π, hav, hsc, hle⟩ := he
      obtain ⟨vs, e1, e2, e3⟩ := rvsA_run hT h2 fn.results.toList hl hp
      have hv := mkTup_val (w := w') e2 e3
      have R' := h2.weaken hle
      rw [hav] at hv
      have hlen : H.length = π.length := (hle.2.2.1.get).1.symm
      have ho : ∀ b, OK (fresh okA w) m' s'.H w' b → OK (fresh okA w) (mren m' π) H w' b := by
        refine fun b hb => ⟨hb.1, hb.2.1, fun k c l hk hl => ?_⟩
        obtain ⟨k', a, b'⟩ := (hle.2.2.1.get).2 k _ hk
        simp only [mren, a, Option.bind_some] at hl
        unfold LeB at b'
        simp only at b'
        split at b'
        · rename_i d hd
          exact hb.2.2 k' _ l (hget_mut hd) hl
        · exact b'.elim
      refine ⟨h3, _, ?_, _, _, rfl, h2.below.below (fun _ h => h), R'.inj, R'.blk, R'.fro, hv.unren (fun p v h => h.mono ho) hlen hsc⟩
      rw [results_eq, Array.mapM_eq_mapM_toList]
      simp only [Sem.run_bind, Sem.run_map]
      rw [e1]
      simp only [Result.andThen_ok]
      rfl
    · exact he.elim
  cases e with
  | normal => exact fini h1
  | ret => exact fini h1
  | _ => exact h1.elim
def shf (n len : Nat) : List Nat := List.range' n len
def Blk.ren (π : List Nat) : Blk → Blk
  | .own c => .own (c.map (Go.Pv.ren π))
  | b => b
theorem shf_get {n len k : Nat} (h : k < len) : (shf n len).getD k 0 = n + k := by
  simp [shf, List.getD, h]
theorem AVal.shift {rd rd' : PV → Value → Prop} {m m2 : Map} {H H2 : Heap} {n : Nat} (h1 : ∀ p v, rd p v → rd' p v) (h2 : n + H.length ≤ H2.length) (hm : ∀ k, k < H.length → m2 (n + k) = m k) {x : AV} {v : Value} (h : AVal rd m H x v)
    (hx : scA H.length x = true) : AVal rd' m2 H2 (Go.Pv.ren (shf n H.length) x) v := by
  have one : ∀ {x : AV} {v : Value}, AVal rd m H x v → sc1 H.length x = true → AVal rd' m2 H2 (ren1 (shf n H.length) x) v := by
    intro x v h hs
    cases h with
    | dead v => exact .dead v
    | p pv v h => exact .p pv v (h1 _ _ h)
    | sl k lo len v hk h =>
      simp only [ren1, shf_get hk]
      refine .sl _ lo len v (by omega) ?_
      unfold SlOk at *
      rw [hm k hk]; exact h
    | ptr k i v hk h =>
      simp only [ren1, shf_get hk]
      refine .ptr _ i v (by omega) ?_
      unfold PtrOk at *
      rw [hm k hk]; exact h
    | agg l vs hl hr => simp [sc1] at hs
    | tup l vs hl hr => simp [sc1] at hs
    | cl f l vs hl hr => simp [sc1] at hs
    | itv r => exact .itv r
    | sls k lo len sz v hk h =>
      simp only [ren1, shf_get hk]
      refine .sls _ lo len sz v (by omega) ?_
      unfold SlsOk at *
      rw [hm k hk]; exact h
    | mptr k v hk h =>
      simp only [ren1, shf_get hk]
      refine .mptr _ v (by omega) ?_
      unfold MptrOk at *
      rw [hm k hk]; exact h
    | yv k l vs v hk h hl hr => simp [sc1] at hs
  cases x with
  | agg l =>
    cases h with
    | agg _ vs hl hr =>
      refine .agg _ vs (by simpa using hl) fun c hc => ?_
      rw [List.length_map] at hc
      rw [List.getElem_map]
      exact one (hr c hc) ((List.all_eq_true.1 hx) _ (List.getElem_mem hc))
  | tup l =>
    cases h with
    | tup _ vs hl hr =>
      refine .tup _ vs (by simpa using hl) fun c hc => ?_
      rw [List.length_map] at hc
      rw [List.getElem_map]
      exact one (hr c hc) ((List.all_eq_true.1 hx) _ (List.getElem_mem hc))
  | cl f l =>
    cases h with
    | cl _ _ vs hl hr =>
      refine .cl _ _ vs (by simpa using hl) fun c hc => ?_
      rw [List.length_map] at hc
      rw [List.getElem_map]
      exact one (hr c hc) ((List.all_eq_true.1 hx) _ (List.getElem_mem hc))
  | yv k l vs =>
    simp only [scA, Bool.and_eq_true, decide_eq_true_eq] at hx
    cases h with
    | yv _ _ _ _ hk h hl hr =>
      simp only [Go.Pv.ren, shf_get hk]
      refine .yv _ _ vs v (by omega) ?_ (by simpa using hl) fun c hc => ?_
      · unfold YvOk at *
        rw [hm k hk]; exact h
      · rw [List.length_map] at hc
        rw [List.getElem_map]
        exact one (hr c hc) ((List.all_eq_true.1 hx.2) _ (List.getElem_mem hc))
  | dead => exact .dead v
  | p pv => exact one h hx
  | sl k lo len => exact one h hx
  | ptr k i => exact one h hx
  | mptr k => exact one h hx
  | itv r => exact one h hx
  | sls k lo len sz => exact one h hx
def scG (av : AV) (H : Heap) : Bool :=
  scA H.length av && H.all fun | .own c => c.all (scA H.length) | .mp _ _ _ => false | .anc _ _ => false | .lp _ => false | _ => true
theorem Rel.join {okA : Nat → Prop} (R : Rel C m s tmps w) {w' : World} {m' : Map} {av : AV} {H : Heap} {v : Value} (hA : ∀ b, okA b → OK C m s.H w b) (hbl : Below w.heap.size w w') (ho : Outs (fresh okA w) m' H w' av v) (hsc : scG av H = true) :
    ∃ m2, Rel C m2 { s with H := s.H ++ H.map (Blk.ren (shf s.H.length H.length)) } tmps w' ∧
      AVal (Reads (OK C m2 (s.H ++ H.map (Blk.ren (shf s.H.length H.length))) w') w') m2 (s.H ++ H.map (Blk.ren (shf s.H.length H.length))) (Go.Pv.ren (shf s.H.length H.length) av) v := by
  obtain ⟨hsa, hsb⟩ := Bool.and_eq_true _ _ ▸ hsc
  let H2 := s.H ++ H.map (Blk.ren (shf s.H.length H.length))
  let m2 : Map := fun k => if k < s.H.length then m k else m' (k - s.H.length)
  have hmo : ∀ k, k < s.H.length → m2 k = m k := fun k h => by simp [m2, h]
  have hmn : ∀ k, m2 (s.H.length + k) = m' k := fun k => by
    show (if _ then _ else _) = _
    rw [if_neg (by omega), Nat.add_sub_cancel_left]
  have hlt : ∀ (k : Nat) (c' : List AV) l, s.H[k]? = some (Blk.own c') → m k = some l → l.g < w.heap.size := by
    intro k c' l h hl
    rcases R.blk k c' h with ⟨_, hn⟩ | ⟨l', cur', e', hl', hB, hg', _⟩
    · rw [hl] at hn; cases hn
    · rw [hl] at hl'; cases hl'
      exact (Array.getElem?_eq_some_iff.1 hg').1
  have hge : ∀ (k : Nat) (c' : List AV) l, H[k]? = some (Blk.own c') → m' k = some l → w.heap.size ≤ l.g := by
    intro k c' l h hl
    rcases ho.blk k c' h with ⟨_, hn⟩ | ⟨l', cur', e', hl', hB, hg', _⟩
    · rw [hl] at hn; cases hn
    · rw [hl] at hl'; cases hl'
      exact hB
  have hget : ∀ (k : Nat) (b : Blk), H2[k]? = some b → (k < s.H.length ∧ s.H[k]? = some b) ∨ ∃ j b', k = s.H.length + j ∧ H[j]? = some b' ∧ b = b'.ren (shf s.H.length H.length) := by
    intro k b h
    by_cases hk : k < s.H.length
    · exact .inl ⟨hk, by rwa [List.getElem?_append_left hk] at h⟩
    · rw [List.getElem?_append_right (by omega), List.getElem?_map] at h
      cases e : H[k - s.H.length]? with
      | none => rw [e] at h; cases h
      | some b' => rw [e] at h; exact .inr ⟨k - s.H.length, b', by omega, e, (Option.some.inj h).symm⟩
  have hown : ∀ (k : Nat) (c : List AV), H2[k]? = some (.own c) → (k < s.H.length ∧ s.H[k]? = some (.own c)) ∨ ∃ j c', k = s.H.length + j ∧ H[j]? = some (.own c') ∧ c = c'.map (Go.Pv.ren (shf s.H.length H.length)) := by
    intro k c h
    rcases hget k _ h with h | ⟨j, b', rfl, h, e⟩
    · exact .inl h
    · cases b' with
      | own c' => simp only [Blk.ren, Blk.own.injEq] at e; exact .inr ⟨j, c', rfl, h, e⟩
      | _ => cases e
  have hok : ∀ b, OK C m s.H w b → ∀ k c l, H2[k]? = some (.own c) → m2 k = some l → l.g ≠ b := by
    intro b hb k c l h hl
    rcases hown k c h with ⟨hk, h⟩ | ⟨j, c', rfl, h, _⟩
    · rw [hmo k hk] at hl; exact hb.2.2 k c l h hl
    · rw [hmn] at hl
      have := hge j c' l h hl
      have := hb.2.1
      omega
  have hOK : ∀ b, OK (fresh okA w) m' H w' b → OK C m2 H2 w' b := by
    intro b hb
    refine ⟨?_, hb.2.1, fun k c l h hl => ?_⟩
    · rcases hb.1 with h | h
      · exact (hA b h).1
      · exact .inr (R.base _ h)
    · rcases hown k c h with ⟨hk, h⟩ | ⟨j, c', rfl, h, _⟩
      · rw [hmo k hk] at hl
        rcases hb.1 with h' | h'
        · exact (hA b h').2.2 k c l h hl
        · have := hlt k c l h hl
          have h' : w.heap.size ≤ b := h'
          omega
      · rw [hmn] at hl; exact hb.2.2 j c' l h hl
  have hh : ∀ b, b < w.heap.size → w'.heap[b]? = w.heap[b]? := fun b h => hbl.block b h
  have ho1 : ∀ b, OK C m s.H w b → OK C m2 H2 w' b := fun b h => ⟨h.1, Nat.lt_of_lt_of_le h.2.1 hbl.size, hok b h⟩
  have hlen2 : s.H.length + H.length ≤ H2.length := by simp [H2]
  have hmpH : ∀ (k : Nat) (b : Blk), b.spc = true → H2[k]? = some b → s.H[k]? = some b := by
    intro k b hs h
    rcases hget k _ h with h | ⟨j, b', rfl, h2, e⟩
    · exact h.2
    · subst e
      cases b' with
      | mp _ _ _ =>
        have := (List.all_eq_true.1 hsb) _ (List.mem_of_getElem? h2)
        simp at this
      | anc _ _ =>
        have := (List.all_eq_true.1 hsb) _ (List.mem_of_getElem? h2)
        simp at this
      | lp _ =>
        have := (List.all_eq_true.1 hsb) _ (List.mem_of_getElem? h2)
        simp at this
      | _ => cases hs
  refine ⟨m2, R.heap (hbl.toP R.base) (by simp) hmo hok (fun b h => hh b h.2.1) ?_ ?_ ?_ hmpH, ?_⟩
  · intro k k' c c' l l' h1 h2 h3 h4 h5
    rcases hown k c h1 with ⟨hk, h1⟩ | ⟨j, d, rfl, h1, _⟩ <;> rcases hown k' c' h2 with ⟨hk', h2⟩ | ⟨j', d', rfl, h2, _⟩
    · rw [hmo k hk] at h3; rw [hmo k' hk'] at h4
      exact R.inj k k' c c' l l' h1 h2 h3 h4 h5
    · rw [hmo k hk] at h3; rw [hmn] at h4
      have := hlt k c l h1 h3
      have := hge j' d' l' h2 h4
      omega
    · rw [hmn] at h3; rw [hmo k' hk'] at h4
      have := hlt k' c' l' h2 h4
      have := hge j d l h1 h3
      omega
    · rw [hmn] at h3 h4
      rw [ho.inj j j' d d' l l' h1 h2 h3 h4 h5]
  · intro k c h
    rcases hown k c h with ⟨hk, h⟩ | ⟨j, c', rfl, hj, rfl⟩
    · refine (R.blk k c h).ext (fun p v h => h.ext ho1 fun b hb => hh b hb.2.1) (by simp) hmo (hmo k hk) fun l hl => ?_
      exact hh _ (hlt k c l h hl)
    · rcases ho.blk j c' hj with ⟨e, hn⟩ | ⟨l, cur, e, h1, h2, h3, h4, h5, h6, h7⟩
      · exact .inl ⟨by rw [e]; rfl, by rw [hmn]; exact hn⟩
      · refine .inr ⟨l, cur, e, by rw [hmn]; exact h1, R.base _ h2, h3, h4, h5, by simpa using h6, fun i hi => ?_⟩
        rw [List.length_map] at hi
        rw [List.getElem_map]
        have hs : scA H.length c'[i] = true := by
          have := (List.all_eq_true.1 hsb) _ (List.mem_of_getElem? hj)
          exact (List.all_eq_true.1 this) _ (List.getElem_mem hi)
        exact (h7 i hi).shift (fun p v h => h.mono hOK) hlen2 (fun k _ => hmn k) hs
  · intro k c h
    rcases hget k _ h with ⟨hk, h⟩ | ⟨j, b', rfl, h, e⟩
    · exact (R.fro k c h).ext ho1 (fun b hb => hh b hb.2.1) (hmo k hk)
    · cases b' with
      | fro c' =>
        simp only [Blk.ren, Blk.fro.injEq] at e
        subst e
        rcases ho.fro j c h with ⟨e1, e2⟩ | ⟨l, vs, e1, e2, e3, e4⟩
        · exact .inl ⟨e1, by rw [hmn]; exact e2⟩
        · exact .inr ⟨l, vs, by rw [hmn]; exact e1, hOK _ e2, e3, fun i hi => ⟨(e4 i hi).1, (e4 i hi).2.mono hOK⟩⟩
      | _ => cases e
  · exact ho.val.shift (fun p v h => h.mono hOK) hlen2 (fun k _ => hmn k) hsa
theorem call_doesG {o : Oper} {fo : Operand} {args : Array Operand} {ts : Array TypeId} (ho : o.op = .call { callee := .value fo, args := args, argTypes := ts }) {g : FuncId} {avs : List PV} {p : Prop} {av : AV} {H : Heap}
    (hc : FnG P g avs av H) (hcall : callA s fo args = some (g, avs, p, true)) (hp : p) (hsc : scG av H = true) : DoesW P o s (Go.Pv.ren (shf s.H.length H.length) av) (s.H ++ H.map (Blk.ren (shf s.H.length H.length))) := by
  intro C m a w K Q R hK
  unfold callA at hcall
  split at hcall
  · rename_i g' cap hf
    split at hcall <;> simp only [Option.some.injEq, Prod.mk.injEq, reduceCtorEq] at hcall
    rename_i p' pvs b' hpl
    obtain ⟨rfl, rfl, rfl, rfl⟩ := hcall
    have hfv := R.ev fo
    rw [hf] at hfv
    generalize hfe : a.eval fo = fv at hfv
    have hfv := hfv.p_inv
    cases hfv with
    | fn _ _ vs hcl hcr =>
      obtain ⟨⟨fn, hfn, hnm, hbd⟩, hcalls⟩ := hc
      obtain ⟨e1, e2, e3⟩ := peekList_val (C := C) (m := m) (w := w) (H := s.H) (fun {x v p pv b} (hx : AVal (Reads (OK C m s.H w) w) m s.H x v) h hp => peekG_val R hx h hp) (args.toList.map s.ev) (fun c => (args.toList.map a.eval).getD c undef) (fun c hc => by
        simp only [List.length_map] at hc
        have := R.ev (args.toList[c])
        simpa [List.getD, List.getElem?_map, List.getElem?_eq_getElem hc] using this) hpl hp
      simp only [List.length_map] at e1
      have hvals : ∀ i (h : i < (pvs ++ cap).length), (args.map a.eval ++ vs).getD i undef = if i < pvs.length then (args.toList.map a.eval).getD i undef else vs.getD (i - pvs.length) undef := by
        intro i hi
        simp only [Array.getD_eq_getD_getElem?]
        by_cases hip : i < pvs.length
        · rw [if_pos hip, Array.getElem?_append_left (by simp at e1 ⊢; omega)]
          simp [List.getD]
        · rw [if_neg hip, Array.getElem?_append_right (by simp at e1 ⊢; omega)]
          congr 2
          simp at e1 ⊢; omega
      have hrun : (execOp a.eval o).run P w = .ok (.enter g' (args.map a.eval ++ vs)) w := by
        have hnm' : ¬ fn.name = "runtime.NumGoroutine" := by simpa using hnm
        have hbd' : ¬ fn.body = none := by intro e; rw [e] at hbd; simp at hbd
        simp [execOp, ho, resolve, hfe, Deferred.ofValue, invoke, callFunc, hfn, hnm', hbd']
      refine opR_of_wp (by first | rfl | (rw [ho]; rfl)) ?_
      unfold Oper.wp
      rw [hrun]
      simp only [Oper.upon]
      have hsz : (args.map a.eval ++ vs).size = (pvs ++ cap).length := by simp at e1 ⊢; omega
      refine (hcalls (OK C m s.H w) w _ R.laidOK hsz (fun i hi => ?_)).mono fun e w' ⟨v, m', he, hbl, hv⟩ => ?_
      · rw [hvals i hi]
        by_cases hip : i < pvs.length
        · rw [if_pos hip, List.getElem_append_left hip]; exact e3 rfl i hip
        · rw [if_neg hip, List.getElem_append_right (by omega)]; exact hcr _ (by simp at hi; omega)
      · subst he
        obtain ⟨m2, R2, hv2⟩ := R.join (fun b h => h) hbl hv hsc
        exact hK v m2 w' R2 hv2
  · cases hcall
end
end Go.Pv
namespace Go.Pv
open Go.RowKit
section
variable {P : Program} {T : TypeId → Option TI} {s : St}
theorem runs_op {all : Array Oper} {rest : List Oper} {K : St → Prop} {o : Oper} {av : AV} {H' : Heap} (h1 : DoesW P o s av H') (hg : guardA all s o = some true) (hd : dstOk s o.dst)
    (h : Runs P false all rest K (({ s with H := H' } : St).put o.dst av)) : Runs P false all (o :: rest) K s := by
  obtain ⟨s', hr, hK⟩ := h
  exact ⟨s', .cons (.op s _ _ hg (dstOk_spec hd) h1 fun h => by cases h) hr, hK⟩
theorem hk_nil {c : Code} {Q : Exit → St → Prop} (t : Nat) (hs : s.get t = .p (.list [])) (h1 : Holds P c Q { s with sl := (t, .p .nil) :: s.sl }) (h2 : Holds P c Q { s with sl := (t, .p .nz) :: s.sl }) : Holds P c Q s := by
  intro r ds C m a w R hd
  have put : ∀ pv, Reads (OK C m s.H w) w pv (a.tmps.getD t undef) → Rel C m { s with sl := (t, .p pv) :: s.sl } a.tmps w := by
    intro pv hpv
    refine ⟨R.laid, R.below, R.base, R.size, R.inj, R.blk, R.fro, fun t' => ?_, R.mp⟩
    by_cases e : t = t'
    · subst e
      have e2 : ({ s with sl := (t, AV.p pv) :: s.sl } : St).get t = .p pv := by simp [St.get, lk]
      rw [e2]
      exact .p _ _ hpv
    · have e2 : ({ s with sl := (t, AV.p pv) :: s.sl } : St).get t' = s.get t' := by simp [St.get, lk, show (t == t') = false by simpa using e]
      rw [e2]
      exact R.slot t'
  have h := R.slot t
  rw [hs] at h
  have h := h.p_inv
  obtain ⟨ad, cap, e, _⟩ := h.list_len
  simp only [List.length_nil] at e
  rw [e] at h put
  cases ad with
  | none =>
    have hc := h.list_cap rfl
    subst hc
    exact h1 r ds C m a w (put _ .nil) hd
  | some b => exact h2 r ds C m a w (put _ (.nz b cap)) hd
theorem hk_own0 {c : Code} {Q : Exit → St → Prop} (t : Nat) (hs : s.get t = .p .nil) (h : Holds P c Q { s with sl := (t, .sl s.H.length 0 0) :: s.sl, H := s.H ++ [.own []] }) : Holds P c Q s := by
  intro r ds C m a w R hd
  have hv := R.slot t
  rw [hs] at hv
  have hv := hv.p_inv.nil_inv
  have R' := R.newNil
  refine h r ds C _ a w ⟨R'.laid, R'.below, R'.base, R'.size, R'.inj, R'.blk, R'.fro, fun t' => ?_, R'.mp⟩ hd
  by_cases e : t = t'
  · subst e
    have e2 : ({ s with sl := (t, .sl s.H.length 0 0) :: s.sl, H := s.H ++ [.own []] } : St).get t = .sl s.H.length 0 0 := by simp [St.get, lk]
    rw [e2, hv]
    exact .sl _ _ _ _ (by simp) <| .inl ⟨rfl, none, rfl⟩
  · have e2 : ({ s with sl := (t, .sl s.H.length 0 0) :: s.sl, H := s.H ++ [.own []] } : St).get t' = s.get t' := by simp [St.get, lk, show (t == t') = false by simpa using e]
    rw [e2]
    exact R'.slot t'
inductive Sub : PV → PV → Prop
  | same (a : PV) : Sub a a
  | nn (l : List PV) : Sub (.nn l) (.list l)
  | nil : Sub .nil (.list [])
  | nz : Sub .nz (.list [])
theorem Sub.reads {a b : PV} (h : Sub a b) {ok : Nat → Prop} {w : World} {v : Value} (hv : Reads ok w a v) : Reads ok w b v := by
  cases h with
  | same => exact hv
  | nn l => exact hv.nn_list
  | nil => exact hv.nil_list
  | nz =>
    cases hv with
    | nz a cap => exact .list0 _ _ fun h => by cases h
def Subs : List PV → List PV → Prop
  | [], [] => True
  | a :: r, b :: s => Sub a b ∧ Subs r s
  | _, _ => False
theorem Subs.len : ∀ {l r : List PV}, Subs l r → l.length = r.length
  | [], [], _ => rfl
  | a :: l, b :: r, h => by simp [Subs.len h.2]
  | [], _ :: _, h => h.elim
  | _ :: _, [], h => h.elim
theorem Subs.get : ∀ {l r : List PV}, Subs l r → ∀ (i : Nat) (h : i < l.length) (h' : i < r.length), Sub l[i] r[i]
  | a :: l, b :: r, h, 0, _, _ => h.1
  | a :: l, b :: r, h, i + 1, h1, h2 => by simpa using Subs.get h.2 i (by simpa using h1) (by simpa using h2)
  | [], [], _, i, h, _ => by simp at h
  | [], _ :: _, h, _, _, _ => h.elim
  | _ :: _, [], h, _, _, _ => h.elim
theorem FnC.sub {f : FuncId} {args args' : List PV} {r : PV} (h : FnC P f args r) (hs : Subs args' args) : FnC P f args' r := by
  refine ⟨h.1, fun okA w vals h1 h2 h3 => h.2 okA w vals h1 (h2.trans hs.len) fun i hi => ?_⟩
  have := hs.len
  exact (hs.get i (by omega) hi).reads (h3 i (by omega))
theorem hk_seal {c : Code} {Q : Exit → St → Prop} (t k : Nat) {w : List Int} (h1 : s.get t = .sl k 0 w.length) (h2 : hget s.H k = .own (ol w)) (h : Holds P c Q { s with sl := (t, .p (.list (il w))) :: s.sl, H := hset s.H k (.fro (il w)) }) : Holds P c Q s := by
  refine hk_freeze k h2 (ol_allP w) (hk_pure (s := { s with H := hset s.H k (.fro (il w)) }) t (p := 0 + w.length ≤ (il w).length ∧ (((il w).drop 0).take w.length).all PV.one = true) (pv := .list (((il w).drop 0).take w.length)) ?_ ?_ ?_)
  · have e : ({ s with H := hset s.H k (.fro (il w)) } : St).get t = .sl k 0 w.length := h1
    rw [e]
    have hk := hget_mut h2
    have hkl : k < s.H.length := (List.getElem?_eq_some_iff.1 hk).1
    have e2 : hget (hset s.H k (.fro (il w))) k = .fro (il w) := by
      have key : ∀ (H : Heap) (k : Nat) (b : Blk), k < H.length → hget (hset H k b) k = b := by
        intro H
        induction H with
        | nil => intro k b h; simp at h
        | cons x r ih =>
          intro k b h
          cases k with
          | zero => rfl
          | succ k => exact ih k b (by simpa using h)
      exact key _ _ _ hkl
    simp only [peekG, peekS, e2]
  · simp only [il_length, List.drop_zero, il_take, take_len, il_all]
    exact ⟨by omega, trivial⟩
  · simp only [List.drop_zero, il_take, take_len]
    exact h
def ll (ls : List (List Int)) : List PV := ls.map fun w => .list (il w)
theorem ll_length (ls : List (List Int)) : (ll ls).length = ls.length := by simp [ll]
theorem ll_get {ls : List (List Int)} {i : Nat} (h : i < ls.length) : (ll ls).getD i default = .list (il (ls.getD i [])) := by
  simp [ll, List.getD, List.getElem?_eq_getElem h]
theorem ll_all (ls : List (List Int)) : (ll ls).all PV.one = true := by simp [ll, PV.one]
theorem ll_cells (ls : List (List Int)) : (ll ls).all (fun x => x.cells.length == 1) = true := by simp [ll, PV.cells]
theorem appendNz_does (hT : ∀ t ti, T t = some ti → tiOf P t = some ti) {o : Oper} {t : TypeId} {x y : Operand} (ho : o.op = .call { callee := .builtin .append, args := #[x, y], argTypes := #[t, t] }) {ti te : TI} (ht : T t = some ti) {e : TypeId} (hk : ti.kind = .slice e) (hte : T e = some te) (hsz : te.size = 1)
    {l : List PV} (hx : s.ev x = .p (.nn l)) (hy : s.ev y = .p .nz) : DoesW P o s (.p (.nn l)) s.H := by
  intro C m a w K Q R hK
  obtain ⟨dst, op, type, pos, after, guard⟩ := o
  simp only at ho
  subst ho
  have hu := ti_slice (hT _ _ ht) hk
  obtain ⟨i, d, z, h1, h2, h3, h4, h5, h6, h7, h8⟩ := tiOf_parts (hT _ _ hte)
  have h := R.ev x
  rw [hx] at h
  have hl := h.p_inv
  obtain ⟨ad, hv⟩ : ∃ ad, a.eval x = .slice (some ad) l.length l.length := by
    generalize a.eval x = v at hl
    rcases hl.nn_inv with ⟨rfl, ad, rfl⟩ | ⟨b, off, sz, vs, rfl, _⟩
    · exact ⟨ad, rfl⟩
    · exact ⟨_, rfl⟩
  have hy' := R.ev y
  rw [hy] at hy'
  obtain ⟨ad2, cap2, hv2⟩ := hy'.p_inv.nz_inv
  have hr := append_nothing (P := P) (w := w) type hu h1 (by rw [h4, hsz]) (ad := some ad) (n := l.length) (cap := l.length) (x := .slice (some ad2) 0 cap2) src_nil (Nat.le_refl _)
  have hrun : (execOp a.eval { dst := dst, op := .call { callee := .builtin .append, args := #[x, y], argTypes := #[t, t] }, type := type, pos := pos, after := after, guard := guard }).run P w = .ok (.value (.slice (some ad) l.length l.length)) w := by
    simp only [BigFrame.execOp_builtin, BigFrame.builtin_append, List.map_toArray, List.map_cons, List.map_nil, hv, hv2, Sem.run_bind, hr, Result.andThen_ok, Sem.run_pure]
  refine opR_of_wp (by first | rfl | (rw [ho]; rfl)) ?_
  unfold Oper.wp
  rw [hrun]
  rw [hv] at hl
  exact hK _ m w R (.p _ _ hl)
end
def ev0 := And.intro @pc_int
  <| And.intro @pc_bool
  <| And.intro @pc_str
  <| And.intro @pc_list
  <| And.intro @pc_nn
  <| And.intro @pc_nil
  <| And.intro @pc_agg
  <| And.intro @pc_ptr
  <| And.intro @pc_fn
  <| And.intro @Nat.sub_zero
  <| And.intro @Int.toNat_natCast
  <| And.intro @Int.toNat_zero
  <| And.intro @List.replicate_zero.{0}
  <| And.intro @il_length
  <| And.intro @ll_length
  <| And.intro @ll_all
  <| And.intro @ll_cells
  <| And.intro @il_all
  <| And.intro @il_cells
  <| And.intro @il_ol
  <| And.intro @ol_length
  <| And.intro @ol_ok
  <| And.intro @ol_ren
  <| And.intro @ol_sc
  <| And.intro @ol_allP
  <| And.intro @ol_take
  <| And.intro @ol_drop
  <| And.intro @ol_append
  <| And.intro @ol_snoc
  <| And.intro @take_len
  <| And.intro @il_take
  <| And.intro @il_drop
  <| And.intro @drop_take_len
  <| And.intro @tm_nat
  <| And.intro @td_nat
  <| And.intro @tn_pred
  <| And.intro @tn_succ
  <| And.intro @tn_sub
  <| And.intro @List.headD_cons.{0}
  <| And.intro @List.map_cons.{0, 0}
  <| And.intro @List.map_nil.{0, 0}
  <| And.intro @List.nil_append.{0}
  <| And.intro @List.append_nil.{0}
  <| And.intro @List.cons_append.{0}
  <| And.intro @List.length_cons.{0}
  <| And.intro @List.length_nil.{0}
  <| And.intro @List.getElem?_cons_zero.{0}
  <| And.intro @List.getElem?_cons_succ.{0}
  <| And.intro @Option.map_some.{0, 0}
  <| And.intro @Option.map_none.{0, 0}
  <| And.intro @Option.bind_some.{0, 0}
  <| And.intro @cond_true.{1}
  <| And.intro @cond_false.{1}
  <| And.intro @Nat.zero_add
  <| And.intro @Nat.add_zero
  <| And.intro @true_and
  <| And.intro @and_true
  <| And.intro @Int.zero_sub
  <| And.intro @Int.neg_zero
  <| And.intro @Int.sub_zero
  <| And.intro @and_self
  <| And.intro @List.getElem?_toArray.{0}
  <| And.intro @List.getD_cons_zero.{0}
  <| And.intro @List.getD_cons_succ.{0}
  <| And.intro @List.all_cons.{0}
  <| And.intro @List.all_nil.{0}
  <| And.intro @Bool.and_true
  <| And.intro @Bool.true_and
  <| And.intro @Bool.and_self
  <| And.intro @List.take_zero.{0}
  <| And.intro @List.drop_zero.{0}
  <| And.intro @eqv_tt
  <| And.intro @eqv_tf
  <| And.intro @eqv_ft
  <| And.intro @eqv_ff
  <| And.intro @Bool.not_true
  <| And.intro @Bool.not_false
  <| And.intro @Bool.false_eq_true
  <| And.intro @Bool.true_eq_false
  <| And.intro @Option.some.injEq.{0}
  <| And.intro @eq_self.{1}
  <| And.intro @ne_eq.{1}
  <| And.intro @not_false_eq_true
  <| And.intro @Nat.one_ne_zero
  <| And.intro @List.take_succ_cons.{0}
  <| And.intro @List.take_nil.{0}
  <| And.intro @List.drop_succ_cons.{0}
  <| And.intro @List.drop_nil.{0}
  <| And.intro @List.set_cons_zero.{0}
  <| And.intro @List.set_cons_succ.{0}
  <| @List.set_nil.{0}
end Go.Pv
namespace Go.Pv
open Go.RowKit Go.ChangeShapes Go.WideShapes
section
variable {H : Type} {enc : TypeId × Value → H} {P : Program}
theorem args_stay (hl : laidOutB P = true) {W W' : World} {sp : Nat → Bool} (hb : Below W.heap.size W W') : ∀ {ts : List TypeId} {vs : List Value} {ds : List (DataW H)} {ps : List MemPlace}, (ts.all fun t => P.readableRec t && decide (t < P.types.size)) = true →
    DataW.TrodAll enc P W 0 (fun _ => true) true ts vs ds ps → (∀ x ∈ ps, x.block < W.heap.size) → (∀ x ∈ ps, sp x.block = true) → DataW.TrodAll enc P W' 0 sp true ts vs ds ps
  | [], vs, ds, ps, _, h, _, _ => by
    obtain ⟨rfl, rfl, rfl⟩ := trodAll_nil h
    exact trodAll_mk0
  | t :: ts, vs, ds, ps, ht, h, hlt, hs => by
    obtain ⟨v, vs', d, ds', p, q, rfl, rfl, rfl, h0, h1⟩ := trodAll_cons h
    simp only [List.all_cons, Bool.and_eq_true, decide_eq_true_eq] at ht
    refine trodAll_cons_mk (WideElems.Trod_stays hl ht.1.1 ht.1.2 h0 (fun x hx => hb.same (hlt x (by simp [hx]))) fun x hx => hs x (by simp [hx])) (args_stay hl hb ht.2 h1 (fun x hx => hlt x (by simp [hx])) fun x hx => hs x (by simp [hx]))
theorem law_post (hl : laidOutB P = true) {f : Func} {s : ChangeSpec} {W W' : World} {args : Array Value} {ds gs : List (DataW H)} {before : List MemPlace} {tb : TypeId} (hvars : s.vars = []) (hr : f.resultTypes = #[tb]) (hb : P.underlying tb = some .bool)
    (hts : (f.params.toList.all fun t => P.readableRec t && decide (t < P.types.size)) = true) (hW : DataW.Whole enc P f.params.toList s.vars false W args.toList ds gs before)
    (hfn : ds.length = f.params.toList.length → s.fn H (ds ++ []) = { results := [.lit (.bool true)], args := ds }) (hbl : Below W.heap.size W W') : s.post enc P f false true false false W args (.bool true) W' := by
  have hW' := hW
  obtain ⟨p, q, hA, hV, rfl, hfz, hnd⟩ := hW
  rw [hvars] at hV
  obtain ⟨rfl, rfl⟩ := trodVars_none hV
  have hlen : ds.length = f.params.toList.length := (trodAll_length hA).2
  have hf := hfn hlen
  have hlt : ∀ x ∈ p, x.block < W.heap.size := fun x hx => by simpa using hW'.lt x (by simp [hx])
  have hold : ∀ x ∈ p ++ [], (fun b => decide (b < W.heap.size)) x.block = true := fun x hx => by simpa using hW'.lt x hx
  have hres : ∀ (b : Nat) (sp : Nat → Bool) (hd : Bool), DataW.TrodAll enc P W' b sp hd f.resultTypes.toList ((Value.bool true).resultList f.resultTypes.size) (s.fn H (ds ++ [])).results [] := by
    intro b sp hd
    rw [hf, hr]
    exact trodAll_mk1 (shut_bool hb _)
  have hargs : ∀ sp : Nat → Bool, (∀ x ∈ p ++ [], sp x.block = true) → DataW.TrodAll enc P W' 0 sp true f.params.toList args.toList (s.fn H (ds ++ [])).args p := by
    intro sp hsp
    rw [hf]
    exact args_stay hl hbl hts hA hlt fun x hx => hsp x (by simp [hx])
  have hvs : ∀ sp : Nat → Bool, DataW.TrodVars enc P W' sp s.vars (s.fn H (ds ++ [])).vars [] := by
    intro sp
    rw [hvars, hf]; rfl
  refine ⟨ds, [], p ++ [], [], p, [], hW', hres _ _ _, hargs _ hold, hvs _, World.keptBut_mono (fun x hx => ⟨hx, ?_⟩) (hbl.frame (· ∈ p ++ [])), fun _ => ?_⟩
  · exact Or.inr (by simpa using hx)
  · refine ⟨ok_one hr rfl (okWide_bool_mk hb _), _, _, ([] ++ p) ++ [], ⟨[] ++ p, [], trodAll_append (hargs _ (fun _ _ => rfl)) (hres _ _ _), hvs _, rfl, ?_, ?_⟩, ?_⟩
    · intro b off hp
      rw [hbl.frozen (p := ⟨b, off, none⟩) (hlt (.cell b off) (by simpa using hp))]
      exact hfz b off (by simpa using hp)
    · intro ha
      have := hnd ha
      simpa using this
    · intro x hx _
      simpa using hx
end
end Go.Pv
namespace Go.Pv
open Go.RowKit Go.ChangeShapes Go.WideShapes
def gp (n : Int) (m : List Int) : PV := .agg [.int .i64 n, .list (il m)]
section
variable {H : Type} {enc : TypeId × Value → H} {P : Program}
theorem open_i {t : TypeId} {W : World} {base : Nat} {v : Value} {d : DataW H} {p : List MemPlace} (ht : P.underlying t = some (.int .i64)) (hval : Value.okWide P W .any base t v) (h : DataW.Trod enc P W 0 (fun _ => true) true t v d p) :
    ∃ x : Int, In64 x ∧ Reads (fun b => b < W.heap.size) W (.int .i64 x) v := by
  obtain ⟨n, rfl, _, _, hw⟩ := open_int ht hval h
  simp [Lit.wf, IntKind.min, IntKind.max, IntKind.signed, IntKind.bits] at hw
  exact ⟨n, ⟨by omega, by omega⟩, .int _ _⟩
theorem il_of_trod {t e : TypeId} {W : World} {fuel : Nat} {cs : List Value} {x : DataW H × List MemPlace} (ht : P.underlying t = some (.slice e)) (he : P.underlying e = some (.int .i64)) (hc : P.cellsOf e = 1)
    (hby : P.bytesOf e = 8) (hf : DataW.trod enc P W 0 (fun _ => true) true fuel t cs = some x) (hw : (x.1.weights P t).all (· ≤ reachBytes) = true) :
    ∃ (xs : List Int) (v : Value), cs = [v] ∧ (∀ x ∈ xs, In64 x) ∧ xs.length ≤ 17592186043904 ∧ Reads (fun b => b < W.heap.size) W (.list (il xs)) v := by
  rcases open_ints ht he hc hf with ⟨rfl, rfl⟩ | ⟨a, len0, cap0, zs, rfl, _, hle, hmax, hall, rfl, hcell, hwf⟩
  · exact ⟨[], _, rfl, fun x hx => by simp at hx, Nat.zero_le _, .list0 none 0 fun _ => rfl⟩
  · simp only [DataW.weights, ht, hby, List.all_cons, Bool.and_eq_true, decide_eq_true_eq] at hw
    have hbig : (zs.take len0).length * 8 ≤ reachBytes := by
      have e1 : ∀ l : List Int, (lits (H := H) .i64 l).length = l.length := fun l => by simp [lits]
      have := hw.1
      rw [e1, e1] at this
      omega
    unfold reachBytes at hbig
    simp only [if_true] at hall
    have hlen : (zs.take len0).length = len0 := by simp; omega
    refine ⟨zs.take len0, _, rfl, fun x hx => ?_, by omega, ?_⟩
    · have := hwf x (List.mem_of_mem_take hx)
      simp [Lit.wf, IntKind.min, IntKind.max, IntKind.signed, IntKind.bits] at this
      exact ⟨by omega, by omega⟩
    · by_cases h0 : len0 = 0
      · subst h0
        exact .list0 _ _ fun h => by cases h
      · obtain ⟨b, off, rfl, hcell'⟩ := ints_at (w := W) hcell (by omega)
        have hone : ∀ x ∈ il (zs.take len0), x.cells.length = 1 := by
          intro x hx
          obtain ⟨y, _, rfl⟩ := List.mem_map.1 hx
          rfl
        have hfl : flat (il (zs.take len0)) = il (zs.take len0) := flat_all_one (il_all _)
        have := Reads.list (ok := fun b => b < W.heap.size) (w := W) (il (zs.take len0)) b off cap0 1 (fun j => .int .i64 (zs.getD j 0)) ?_ hone (by rw [il_length, hlen]; exact hle) (fun c hcl => ?_) (fun c hcl => ?_)
        · rwa [il_length, hlen] at this
        · have := hcell' 0 (by omega)
          simp only [World.cell?] at this
          by_cases hb : b < W.heap.size
          · exact hb
          · rw [Array.getElem?_eq_none (by omega)] at this
            simp at this
        · rw [hfl, il_length, hlen] at hcl
          exact hcell' c (by omega)
        · simp only [hfl]
          have hcl2 : c < len0 := by rw [hfl, il_length, hlen] at hcl; exact hcl
          have e : (il (zs.take len0))[c]'(by rw [il_length, hlen]; exact hcl2) = .int .i64 (zs.getD c 0) := by
            simp [il, List.getD, List.getElem?_eq_getElem (show c < zs.length by omega)]
          rw [e]
          exact .int _ _
end
theorem ieq (a b : Int) : (a == b) = decide (a = b) := rfl
theorem ine (a b : Int) : (a != b) = !decide (a = b) := rfl
theorem deq_self (a : Int) : decide (a = a) = true := by simp
theorem bnot_t : (!true) = false := rfl
theorem bnot_f : (!false) = true := rfl
theorem band_t (b : Bool) : (true && b) = b := rfl
theorem band_f (b : Bool) : (false && b) = false := rfl
end Go.Pv
namespace Go.Pv
theorem ise0 : (#[] : Array Operand).isEmpty = true := rfl
def evA := And.intro @aops.eq_1
  <| And.intro @aops.eq_2
  <| And.intro @aops.eq_3
  <| And.intro @xstep.eq_1
  <| And.intro @guardA.eq_1
  <| And.intro @opA.eq_1
  <| And.intro @opA.eq_2
  <| And.intro @opA.eq_3
  <| And.intro @opA.eq_4
  <| And.intro @opA.eq_5
  <| And.intro @opA.eq_6
  <| And.intro @opA.eq_7
  <| And.intro @opA.eq_8
  <| And.intro @opA.eq_9
  <| And.intro @opA.eq_10
  <| And.intro @opA.eq_11
  <| And.intro @opA.eq_12
  <| And.intro @opA.eq_13
  <| And.intro @opA.eq_14
  <| And.intro @opA.eq_15
  <| And.intro @opA.eq_16
  <| And.intro @opA.eq_17
  <| And.intro @opA.eq_18
  <| And.intro @opA.eq_19
  <| And.intro @opA.eq_20
  <| And.intro @opA.eq_21
  <| And.intro @opA.eq_22
  <| And.intro @opA.eq_23
  <| And.intro @opA.eq_24
  <| And.intro @opA.eq_25
  <| And.intro @opA.eq_26
  <| And.intro @indexA.eq_1
  <| And.intro @nilA.eq_1
  <| And.intro @nilA.eq_2
  <| And.intro @makeMapA.eq_1
  <| And.intro @keyA.eq_1
  <| And.intro @keyA.eq_2
  <| And.intro @mapUpdateA.eq_1
  <| And.intro @lookupA.eq_1
  <| And.intro @binA.eq_1
  <| And.intro @binA.eq_2
  <| And.intro @binA.eq_3
  <| And.intro @binA.eq_4
  <| And.intro @binA.eq_5
  <| And.intro @binA.eq_6
  <| And.intro @binA.eq_7
  <| And.intro @binA.eq_8
  <| And.intro @binA.eq_9
  <| And.intro @binA.eq_10
  <| And.intro @binA.eq_11
  <| And.intro @binA.eq_12
  <| And.intro @binA.eq_13
  <| And.intro @binA.eq_14
  <| And.intro @binA.eq_15
  <| And.intro @binA.eq_16
  <| And.intro @binA.eq_17
  <| And.intro @binA.eq_18
  <| And.intro @binA.eq_19
  <| And.intro @binA.eq_20
  <| And.intro @binA.eq_21
  <| And.intro @binA.eq_22
  <| And.intro @binA.eq_23
  <| And.intro @binA.eq_24
  <| And.intro @binA.eq_25
  <| And.intro @binInt.eq_1
  <| And.intro @binInt.eq_2
  <| And.intro @binInt.eq_3
  <| And.intro @binInt.eq_4
  <| And.intro @binInt.eq_5
  <| And.intro @binInt.eq_6
  <| And.intro @binInt.eq_7
  <| And.intro @binInt.eq_8
  <| And.intro @binInt.eq_9
  <| And.intro @binInt.eq_10
  <| And.intro @binInt.eq_11
  <| And.intro @binInt.eq_12
  <| And.intro @binInt.eq_13
  <| And.intro @binInt.eq_14
  <| And.intro @binInt.eq_15
  <| And.intro @binInt.eq_16
  <| And.intro @binInt.eq_17
  <| And.intro @arith.eq_1
  <| And.intro @arith.eq_2
  <| And.intro @arith.eq_3
  <| And.intro @unA.eq_1
  <| And.intro @unA.eq_2
  <| And.intro @unA.eq_3
  <| And.intro @unA.eq_4
  <| And.intro @unA.eq_5
  <| And.intro @unA.eq_6
  <| And.intro @pickA.eq_1
  <| And.intro @pickA.eq_2
  <| And.intro @pickA.eq_3
  <| And.intro @convA.eq_1
  <| And.intro @convA.eq_2
  <| And.intro @allocA.eq_1
  <| And.intro @boxA.eq_1
  <| And.intro @loadA.eq_1
  <| And.intro @loadA.eq_2
  <| And.intro @loadA.eq_3
  <| And.intro @storeA.eq_1
  <| And.intro @storeA.eq_2
  <| And.intro @fieldAddrA.eq_1
  <| And.intro @fieldA.eq_1
  <| And.intro @indexAddrA.eq_1
  <| And.intro @indexAddrA.eq_2
  <| And.intro @lenA.eq_1
  <| And.intro @lenA.eq_2
  <| And.intro @lenS.eq_1
  <| And.intro @lenS.eq_2
  <| And.intro @lenS.eq_3
  <| And.intro @lenS.eq_4
  <| And.intro @lenS.eq_5
  <| And.intro @lenS.eq_6
  <| And.intro @sliceA.eq_1
  <| And.intro @boundA.eq_1
  <| And.intro @boundA.eq_2
  <| And.intro @boundA.eq_3
  <| And.intro @makeSliceA.eq_def
  <| And.intro @ise0
  <| And.intro @elemsA.eq_1
  <| And.intro @elemsA.eq_2
  <| And.intro @elemsA.eq_3
  <| And.intro @elemsA.eq_4
  <| And.intro @elemsA.eq_5
  <| And.intro @appendA.eq_1
  <| And.intro @buildA.eq_1
  <| And.intro @fillA.eq_1
  <| And.intro @fillA.eq_2
  <| And.intro @buildSliceA.eq_1
  <| And.intro @partsA.eq_1
  <| And.intro @partsA.eq_2
  <| And.intro @partsA.eq_3
  <| And.intro @extractA.eq_1
  <| And.intro @extractA.eq_2
  <| And.intro @extractA.eq_3
  <| And.intro @builtinA.eq_1
  <| And.intro @builtinA.eq_2
  <| And.intro @builtinA.eq_3
  <| And.intro @builtinA.eq_4
  <| And.intro @builtinA.eq_5
  <| And.intro @minmaxA.eq_1
  <| And.intro @minmaxA.eq_2
  <| And.intro @AV.cells.eq_1
  <| And.intro @AV.cells.eq_2
  <| And.intro @AV.cells.eq_3
  <| And.intro @AV.isAgg.eq_1
  <| And.intro @AV.isAgg.eq_2
  <| And.intro @AV.isAgg.eq_3
  <| And.intro @allP.eq_1
  <| And.intro @allP.eq_2
  <| And.intro @allP.eq_3
  <| And.intro @mkAgg.eq_1
  <| And.intro @hget.eq_1
  <| And.intro @hget.eq_2
  <| And.intro @hget.eq_3
  <| And.intro @hset.eq_1
  <| And.intro @hset.eq_2
  <| And.intro @hset.eq_3
  <| And.intro @isRow.eq_1
  <| And.intro @isRow.eq_2
  <| And.intro @isRow.eq_3
  <| And.intro @isRow.eq_4
  <| And.intro @cellOk.eq_1
  <| And.intro @cellOk.eq_2
  <| And.intro @cellOk.eq_3
  <| And.intro @cellOk.eq_4
  <| And.intro @cellOk.eq_5
  <| And.intro @cellOk.eq_6
  <| And.intro @cellOk.eq_7
  <| And.intro @setC.eq_1
  <| And.intro @setC.eq_2
  <| And.intro @after.eq_1
  <| And.intro @dstOk.eq_1
  <| And.intro @dstOk.eq_2
  <| And.intro @St.put.eq_1
  <| And.intro @St.put.eq_2
  <| And.intro @St.get.eq_1
  <| And.intro @lk.eq_1
  <| And.intro @lk.eq_2
  <| And.intro @St.ev.eq_1
  <| And.intro @St.ev.eq_2
  <| And.intro @St.ev.eq_3
  <| And.intro @St.ev.eq_4
  <| And.intro @cv.eq_1
  <| And.intro @cv.eq_2
  <| And.intro @cv.eq_3
  <| And.intro @cv.eq_4
  <| And.intro @cv.eq_5
  <| And.intro @PV.one.eq_1
  <| And.intro @PV.one.eq_2
  <| And.intro @PV.one.eq_3
  <| And.intro @entry.eq_1
  <| And.intro @ent.eq_1
  <| And.intro @ent.eq_2
  <| And.intro @capA.eq_1
  <| And.intro @capA.eq_2
  <| And.intro @capA.eq_3
  <| And.intro @capsA.eq_1
  <| And.intro @capsA.eq_2
  <| @makeFuncA.eq_1
def nhs := And.intro @Bool.not_eq_true'
  <| And.intro @Bool.not_eq_false'
  <| And.intro @Bool.not_eq_true
  <| And.intro @Bool.not_eq_false
  <| And.intro @Bool.and_eq_true
  <| And.intro @Bool.and_eq_false_iff
  <| And.intro @Bool.or_eq_true
  <| And.intro @Bool.or_eq_false_iff
  <| And.intro @decide_eq_true_eq
  <| And.intro @decide_eq_false_iff_not
  <| @Decidable.not_not
def leq := And.intro @AV.p.injEq
  <| And.intro @AV.sl.injEq
  <| And.intro @AV.ptr.injEq
  <| And.intro @Blk.own.injEq
  <| And.intro @PV.int.injEq
  <| And.intro @PV.bool.injEq
  <| And.intro @PV.list.injEq
  <| And.intro @Nat.sub_zero
  <| And.intro @Int.natCast_add
  <| And.intro @List.length_append.{0}
  <| And.intro @take_take_len
  <| And.intro @take_app1
  <| And.intro @take_app2
  <| And.intro @List.nodup_cons.{0}
  <| And.intro @List.nodup_nil.{0}
  <| And.intro @List.mem_cons.{0}
  <| And.intro @List.not_mem_nil.{0}
  <| And.intro @or_false
  <| @not_false_eq_true
def leA := And.intro @Le.eq_1
  <| And.intro @LeH.eq_1
  <| And.intro @LeH.eq_2
  <| And.intro @LeH.eq_3
  <| And.intro @LeS.eq_1
  <| And.intro @LeS.eq_2
  <| And.intro @LeB.eq_1
  <| And.intro @LeB.eq_2
  <| And.intro @LeB.eq_3
  <| And.intro @LeB.eq_4
  <| And.intro @LeB.eq_5
  <| And.intro @LeB.eq_6
  <| And.intro @ren.eq_1
  <| And.intro @ren.eq_2
  <| And.intro @ren.eq_3
  <| And.intro @ren.eq_4
  <| And.intro @ren.eq_5
  <| And.intro @ren1.eq_1
  <| And.intro @ren1.eq_2
  <| And.intro @ren1.eq_3
  <| And.intro @ren1.eq_4
  <| And.intro @scA.eq_1
  <| And.intro @scA.eq_2
  <| And.intro @scA.eq_3
  <| And.intro @scA.eq_4
  <| And.intro @scA.eq_5
  <| And.intro @sc1.eq_1
  <| And.intro @sc1.eq_2
  <| And.intro @sc1.eq_3
  <| And.intro @sc1.eq_4
  <| And.intro @sc1.eq_5
  <| And.intro @sc1.eq_6
  <| And.intro @sc1.eq_7
  <| @sc1.eq_8
def enA := And.intro @Post.eq_1
  <| And.intro @Post.eq_2
  <| And.intro @Post.eq_3
  <| And.intro @endA.eq_1
  <| And.intro @rvsA.eq_1
  <| And.intro @rvsA.eq_2
  <| And.intro @rvA.eq_1
  <| And.intro @rvA.eq_2
  <| And.intro @mkTup.eq_1
  <| And.intro @mkTup.eq_2
  <| And.intro @peekA.eq_1
  <| And.intro @peekA.eq_2
  <| And.intro @peekG.eq_1
  <| And.intro @peekG.eq_2
  <| And.intro @peekG.eq_3
  <| And.intro @peekS.eq_1
  <| And.intro @peekS.eq_2
  <| And.intro @peekS.eq_3
  <| And.intro @peekS.eq_4
  <| And.intro @peekList.eq_1
  <| And.intro @peekList.eq_2
  <| And.intro @PV.norm.eq_1
  <| And.intro @PV.norm.eq_2
  <| And.intro @PV.norm1.eq_1
  <| And.intro @PV.norm1.eq_2
  <| And.intro @PV.norm0.eq_1
  <| And.intro @PV.norm0.eq_2
  <| And.intro @PV.norm0.eq_3
  <| And.intro @PV.norm0.eq_4
  <| And.intro @PV.list.injEq
  <| And.intro @PV.tup.injEq
  <| And.intro @PV.agg.injEq
  <| And.intro @PV.int.injEq
  <| And.intro @PV.bool.injEq
  <| @List.cons.injEq.{0}
def evB := And.intro @ieq
  <| And.intro @ine
  <| And.intro @deq_self
  <| And.intro @bnot_t
  <| And.intro @bnot_f
  <| And.intro @band_t
  <| And.intro @band_f
  <| And.intro @Int.cast_ofNat_Int
  <| And.intro @decide_true
  <| And.intro @decide_false
  <| And.intro @beq_self_eq_true.{0}
  <| And.intro @bne_self_eq_false.{0}
  <| And.intro @ite_true.{1}
  <| And.intro @ite_false.{1}
  <| And.intro @if_true.{1}
  <| @if_false.{1}
end Go.Pv
namespace Go.Pv
open Go.RowKit
section
variable {P : Program} {T : TypeId → Option TI} {C : Ctx} {m : Map} {s : St} {tmps : Array Value} {w : World} {Q : Exit → St → Prop}
theorem Rel.cells (R : Rel C m s tmps w) {k : Nat} {c c' : List AV} (hk : hget s.H k = .own c) (hl : c'.length = c.length)
    (hc : ∀ j (h : j < c.length) (h' : j < c'.length) v, AVal (Reads (OK C m s.H w) w) m s.H c[j] v → AVal (Reads (OK C m s.H w) w) m s.H c'[j] v) : Rel C m { s with H := hset s.H k (.own c') } tmps w := by
  have hk := hget_mut hk
  have hkl : k < s.H.length := (List.getElem?_eq_some_iff.1 hk).1
  have hget : ∀ (j : Nat) (b : Blk), (hset s.H k (.own c'))[j]? = some b → (j = k ∧ b = .own c') ∨ (j ≠ k ∧ s.H[j]? = some b) := by
    intro j b h
    rw [hset_get] at h
    by_cases e : j = k
    · rw [if_pos ⟨e, hkl⟩] at h; exact .inl ⟨e, (Option.some.inj h).symm⟩
    · rw [if_neg (by simp [e])] at h; exact .inr ⟨e, h⟩
  have own : ∀ (j : Nat) (d : List AV), (hset s.H k (.own c'))[j]? = some (.own d) → ∃ d', s.H[j]? = some (.own d') := by
    intro j d h
    rcases hget j _ h with ⟨rfl, h⟩ | h
    · exact ⟨c, hk⟩
    · exact ⟨d, h.2⟩
  have hok : ∀ b, OK C m s.H w b → ∀ j d l, (hset s.H k (.own c'))[j]? = some (.own d) → m j = some l → l.g ≠ b := fun b hb j d l h hl => by
    obtain ⟨d', h'⟩ := own j d h
    exact hb.2.2 j d' l h' hl
  have ho : ∀ b, OK C m s.H w b → OK C m (hset s.H k (.own c')) w b := fun b h => ⟨h.1, h.2.1, hok b h⟩
  refine R.heap (BelowP.refl _ _) (by simp [hset_length]) (fun _ _ => rfl) hok (fun _ _ => rfl) ?_ ?_ ?_ (mp_hset rfl)
  · intro j j' c1 c2 l1 l2 h1 h2 h3 h4 h5
    obtain ⟨d1, g1⟩ := own j c1 h1
    obtain ⟨d2, g2⟩ := own j' c2 h2
    exact R.inj j j' d1 d2 l1 l2 g1 g2 h3 h4 h5
  · intro j d h
    rcases hget j _ h with ⟨rfl, h'⟩ | ⟨hne, h⟩
    · cases h'
      rcases R.blk j c hk with ⟨hc0, hn⟩ | ⟨l, cur, e, hl2, hB, hg, h1, h2, h3, hcells⟩
      · subst hc0
        exact .inl ⟨List.eq_nil_of_length_eq_zero (by simpa using hl), hn⟩
      · refine .inr ⟨l, cur, e, hl2, hB, hg, h1, h2, by omega, fun i hi => ?_⟩
        exact (hc i (by omega) hi _ (hcells i (by omega))).ext (fun p v h => h.ext ho fun _ _ => rfl) (by simp [hset_length]) fun _ _ => rfl
    · exact (R.blk j d h).ext (fun p v h => h.ext ho fun _ _ => rfl) (by simp [hset_length]) (fun _ _ => rfl) rfl fun _ _ => rfl
  · intro j d h
    rcases hget j _ h with ⟨rfl, h'⟩ | ⟨hne, h⟩
    · cases h'
    · exact (R.fro j d h).ext ho (fun _ _ => rfl) rfl
theorem hk_cells {c : Code} (k : Nat) {b b' : List AV} (hk : hget s.H k = .own b) (hl : b'.length = b.length)
    (hc : ∀ C m tmps w, Rel C m s tmps w → ∀ j (h : j < b.length) (h' : j < b'.length) v, AVal (Reads (OK C m s.H w) w) m s.H b[j] v → AVal (Reads (OK C m s.H w) w) m s.H b'[j] v)
    (h : Holds P c Q { s with H := hset s.H k (.own b') }) : Holds P c Q s :=
  fun r ds C m a w R hd => h r ds C m a w (R.cells hk hl (hc C m a.tmps w R)) hd
theorem hk_own0c {c : Code} (k j : Nat) {b : List AV} (hk : hget s.H k = .own b) (hj : b[j]? = some (.p .nil)) (h : Holds P c Q { s with H := hset (s.H ++ [.own []]) k (.own (b.set j (.sl s.H.length 0 0))) }) : Holds P c Q s := by
  intro r ds C m a w R hd
  have R' := R.newNil
  have hk' : hget (s.H ++ [.own []]) k = .own b := by
    have h1 := hget_mut hk
    have key : ∀ (H : Heap) (k : Nat) (b : Blk) (H2 : Heap), H[k]? = some b → hget (H ++ H2) k = b := by
      intro H
      induction H with
      | nil => intro k b H2 h; simp at h
      | cons x r ih =>
        intro k b H2 h
        cases k with
        | zero => simp at h; exact h
        | succ k => exact ih k b H2 (by simpa using h)
    exact key _ _ _ _ h1
  refine h r ds C _ a w (R'.cells (s := { s with H := s.H ++ [.own []] }) hk' (by simp) fun i hi hi' v hv => ?_) hd
  by_cases e : j = i
  · subst e
    rw [List.getElem_set_self]
    have hb : b[j] = .p .nil := by
      rw [List.getElem?_eq_getElem hi] at hj
      exact Option.some.inj hj
    rw [hb] at hv
    have := hv.p_inv.nil_inv
    subst this
    exact .sl _ _ _ _ (by simp) <| .inl ⟨rfl, none, rfl⟩
  · rw [List.getElem_set_ne e]
    exact hv
theorem hk_purec {c : Code} (k j : Nat) {b : List AV} {x : AV} (hk : hget s.H k = .own b) (hj : b[j]? = some x) {p : Prop} {pv : PV} (hx : peekS s.H x = some (p, pv, true)) (hp : p)
    (h : Holds P c Q { s with H := hset s.H k (.own (b.set j (.p pv))) }) : Holds P c Q s := by
  refine hk_cells k hk (by simp) (fun C m tmps w R i hi hi' v hv => ?_) h
  by_cases e : j = i
  · subst e
    rw [List.getElem_set_self]
    have hb : b[j] = x := by
      rw [List.getElem?_eq_getElem hi] at hj
      exact Option.some.inj hj
    rw [hb] at hv
    exact .p _ _ ((peekS_val R hv hx hp).2 rfl)
  · rw [List.getElem_set_ne e]
    exact hv
end
def opl (l : List PV) : List AV := l.map .p
theorem opl_length (l : List PV) : (opl l).length = l.length := by simp [opl]
theorem opl_take (l : List PV) (n : Nat) : (opl l).take n = opl (l.take n) := by simp [opl]
theorem opl_drop (l : List PV) (n : Nat) : (opl l).drop n = opl (l.drop n) := by simp [opl]
theorem opl_append (l r : List PV) : opl l ++ opl r = opl (l ++ r) := by simp [opl]
theorem opl_snoc (l : List PV) (x : PV) : opl l ++ [.p x] = opl (l ++ [x]) := by simp [opl]
theorem opl_ren (l : List PV) (π : List Nat) : (opl l).map (Go.Pv.ren π) = opl l := by simp [opl, Go.Pv.ren, ren1]
theorem opl_sc (l : List PV) (n : Nat) : (opl l).all (scA n) = true := by simp [opl, scA, sc1]
theorem opl_allP (l : List PV) : allP (opl l) = some l := by
  unfold opl
  induction l with
  | nil => rfl
  | cons x r ih => simp [allP, ih]
theorem opl_ok {l : List PV} (h : l.all PV.one = true) : (opl l).all cellOk = true := by
  unfold opl
  rw [List.all_map]
  exact h
theorem oll_ok (r : List (List Int)) : (opl (ll r)).all cellOk = true := opl_ok (ll_all r)
theorem ll_snoc (r : List (List Int)) (x : List Int) : ll r ++ [.list (il x)] = ll (r ++ [x]) := by simp [ll]
def evP := And.intro @opl_length
  <| And.intro @opl_take
  <| And.intro @opl_drop
  <| And.intro @opl_append
  <| And.intro @opl_snoc
  <| And.intro @opl_ren
  <| And.intro @opl_sc
  <| And.intro @opl_allP
  <| And.intro @oll_ok
  <| And.intro @ll_snoc
  <| And.intro @ll_length
  <| And.intro @ll_all
  <| @ll_cells
theorem hget_hset_same : ∀ (H : Heap) (k : Nat) (b : Blk), k < H.length → hget (hset H k b) k = b
  | [], k, b, h => by simp at h
  | x :: r, 0, b, h => rfl
  | x :: r, k + 1, b, h => hget_hset_same r k b (by simpa using h)
theorem hk_sealp {P : Program} {s : St} {c : Code} {Q : Exit → St → Prop} (t k : Nat) {l : List PV} (hone : l.all PV.one = true) (h1 : s.get t = .sl k 0 l.length) (h2 : hget s.H k = .own (opl l)) (h : Holds P c Q { s with sl := (t, .p (.list l)) :: s.sl, H := hset s.H k (.fro l) }) : Holds P c Q s := by
  refine hk_freeze k h2 (opl_allP l) (hk_pure (s := { s with H := hset s.H k (.fro l) }) t (p := 0 + l.length ≤ l.length ∧ ((l.drop 0).take l.length).all PV.one = true) (pv := .list ((l.drop 0).take l.length)) ?_ ?_ ?_)
  · have e : ({ s with H := hset s.H k (.fro l) } : St).get t = .sl k 0 l.length := h1
    rw [e]
    have hk := hget_mut h2
    have hkl : k < s.H.length := (List.getElem?_eq_some_iff.1 hk).1
    simp only [peekG, peekS, hget_hset_same _ _ _ hkl]
  · simp only [List.drop_zero, take_len]
    exact ⟨by omega, hone⟩
  · simp only [List.drop_zero, take_len]
    exact h
end Go.Pv
namespace Go.Pv
open Go.RowKit
inductive NoRef (κ : Nat) : AV → Prop
  | dead : NoRef κ .dead
  | p (v : PV) : NoRef κ (.p v)
  | sl (k lo len : Nat) (h : k ≠ κ) : NoRef κ (.sl k lo len)
  | ptr (k i : Nat) (h : k ≠ κ) : NoRef κ (.ptr k i)
  | mptr (k : Nat) (h : k ≠ κ) : NoRef κ (.mptr k)
  | yv (k : Nat) (l : List AV) (vs : Array Value) (h : k ≠ κ) (h2 : ∀ c (h : c < l.length), NoRef κ l[c]) : NoRef κ (.yv k l vs)
  | agg (l : List AV) (h : ∀ c (h : c < l.length), NoRef κ l[c]) : NoRef κ (.agg l)
  | tup (l : List AV) (h : ∀ c (h : c < l.length), NoRef κ l[c]) : NoRef κ (.tup l)
  | cl (f : FuncId) (l : List AV) (h : ∀ c (h : c < l.length), NoRef κ l[c]) : NoRef κ (.cl f l)
  | itv (r : Nat) : NoRef κ (.itv r)
  | sls (k lo len sz : Nat) (h : k ≠ κ) : NoRef κ (.sls k lo len sz)
def nr1 (κ : Nat) : AV → Bool
  | .sl k _ _ => k != κ
  | .sls k _ _ _ => k != κ
  | .ptr k _ => k != κ
  | .mptr k => k != κ
  | .agg _ => false
  | .tup _ => false
  | .cl _ _ => false
  | .yv _ _ _ => false
  | _ => true
def nrA (κ : Nat) : AV → Bool
  | .agg l => l.all (nr1 κ)
  | .tup l => l.all (nr1 κ)
  | .cl _ l => l.all (nr1 κ)
  | .yv k l _ => (k != κ) && l.all (nr1 κ)
  | x => nr1 κ x
theorem nr1_spec {κ : Nat} {x : AV} (h : nr1 κ x = true) : NoRef κ x := by
  cases x with
  | dead => exact .dead
  | p v => exact .p v
  | sl k lo len => exact .sl _ _ _ (by simpa [nr1] using h)
  | ptr k i => exact .ptr _ _ (by simpa [nr1] using h)
  | mptr k => exact .mptr _ (by simpa [nr1] using h)
  | yv k l vs => simp [nr1] at h
  | agg l => simp [nr1] at h
  | tup l => simp [nr1] at h
  | cl f l => simp [nr1] at h
  | itv r => exact .itv r
  | sls k lo len sz => exact .sls _ _ _ _ (by simpa [nr1] using h)
theorem nrA_spec {κ : Nat} {x : AV} (h : nrA κ x = true) : NoRef κ x := by
  cases x with
  | agg l => exact .agg l fun c hc => nr1_spec ((List.all_eq_true.1 h) _ (List.getElem_mem hc))
  | tup l => exact .tup l fun c hc => nr1_spec ((List.all_eq_true.1 h) _ (List.getElem_mem hc))
  | cl f l => exact .cl f l fun c hc => nr1_spec ((List.all_eq_true.1 h) _ (List.getElem_mem hc))
  | dead => exact .dead
  | p v => exact .p v
  | sl k lo len => exact nr1_spec h
  | ptr k i => exact nr1_spec h
  | mptr k => exact nr1_spec h
  | yv k l vs =>
    simp only [nrA, Bool.and_eq_true, bne_iff_ne] at h
    exact .yv _ _ _ h.1 fun c hc => nr1_spec ((List.all_eq_true.1 h.2) _ (List.getElem_mem hc))
  | itv r => exact .itv r
  | sls k lo len sz => exact nr1_spec h
theorem AVal.noRef {rd : PV → Value → Prop} {m : Map} {H : Heap} {x : AV} {v : Value} (h : AVal rd m H x v) {κ : Nat} (hk : H.length ≤ κ) : NoRef κ x := by
  induction h with
  | dead v => exact .dead
  | p pv v h => exact .p pv
  | sl k lo len v hk' h => exact .sl _ _ _ (by omega)
  | ptr k i v hk' h => exact .ptr _ _ (by omega)
  | mptr k v hk' h => exact .mptr _ (by omega)
  | yv k l vs v hk' h hl hr ih => exact .yv _ _ _ (by omega) ih
  | agg l vs hl hr ih => exact .agg l ih
  | tup l vs hl hr ih => exact .tup l ih
  | cl f l vs hl hr ih => exact .cl f l ih
  | itv r => exact .itv r
  | sls k lo len sz v hk' h => exact .sls _ _ _ _ (by omega)
theorem AVal.extN {rd rd' : PV → Value → Prop} {m m' : Map} {H H' : Heap} {κ L : Nat} (h1 : ∀ p v, rd p v → rd' p v) (h2 : ∀ k, k ≠ κ → k ≠ L → k < H.length → m' k = m k ∧ k < H'.length) {a : AV} {v : Value} (h : AVal rd m H a v) (hk : NoRef κ a) (hL : NoRef L a) : AVal rd' m' H' a v := by
  induction h with
  | dead v => exact .dead v
  | p pv v h => exact .p pv v (h1 _ _ h)
  | sl k lo len v hk' h =>
    cases hk with
    | sl _ _ _ e1 =>
    cases hL with
    | sl _ _ _ e2 =>
    obtain ⟨e3, e4⟩ := h2 k e1 e2 hk'
    refine .sl k lo len v e4 ?_
    rcases h with h | ⟨l, cap, h, r⟩
    · exact .inl h
    · exact .inr ⟨l, cap, by rw [e3]; exact h, r⟩
  | mptr k v hk' h =>
    cases hk with
    | mptr _ e1 =>
    cases hL with
    | mptr _ e2 =>
    obtain ⟨e3, e4⟩ := h2 k e1 e2 hk'
    refine .mptr k v e4 ?_
    obtain ⟨l, h, r⟩ := h
    exact ⟨l, by rw [e3]; exact h, r⟩
  | yv k l vs v hk' h hl hr ih =>
    cases hk with
    | yv _ _ _ e1 f1 =>
    cases hL with
    | yv _ _ _ e2 f2 =>
    obtain ⟨e3, e4⟩ := h2 k e1 e2 hk'
    refine .yv k l vs v e4 ?_ hl fun c hc => ih c hc (f1 c hc) (f2 c hc)
    obtain ⟨l, h, r⟩ := h
    exact ⟨l, by rw [e3]; exact h, r⟩
  | ptr k i v hk' h =>
    cases hk with
    | ptr _ _ e1 =>
    cases hL with
    | ptr _ _ e2 =>
    obtain ⟨e3, e4⟩ := h2 k e1 e2 hk'
    refine .ptr k i v e4 ?_
    obtain ⟨l, h, r⟩ := h
    exact ⟨l, by rw [e3]; exact h, r⟩
  | agg l vs hl hr ih =>
    cases hk with
    | agg _ e1 =>
    cases hL with
    | agg _ e2 => exact .agg l vs hl fun c hc => ih c hc (e1 c hc) (e2 c hc)
  | tup l vs hl hr ih =>
    cases hk with
    | tup _ e1 =>
    cases hL with
    | tup _ e2 => exact .tup l vs hl fun c hc => ih c hc (e1 c hc) (e2 c hc)
  | cl f l vs hl hr ih =>
    cases hk with
    | cl _ _ e1 =>
    cases hL with
    | cl _ _ e2 => exact .cl f l vs hl fun c hc => ih c hc (e1 c hc) (e2 c hc)
  | itv r => exact .itv r
  | sls k lo len sz v hk' h =>
    cases hk with
    | sls _ _ _ _ e1 =>
    cases hL with
    | sls _ _ _ _ e2 =>
    obtain ⟨e3, e4⟩ := h2 k e1 e2 hk'
    refine .sls k lo len sz v e4 ?_
    rcases h with h | ⟨l, cap, h, r⟩
    · exact .inl h
    · exact .inr ⟨l, cap, by rw [e3]; exact h, r⟩
section
variable {P : Program} {T : TypeId → Option TI} {C : Ctx} {m : Map} {s : St} {tmps : Array Value} {w : World}
theorem hset_hget : ∀ (H : Heap) (k j : Nat) (b : Blk), hget (hset H k b) j = if j = k ∧ k < H.length then b else hget H j
  | [], k, j, b => by simp [hset]
  | x :: r, 0, 0, b => by simp [hset, hget]
  | x :: r, 0, j + 1, b => by simp [hset, hget]
  | x :: r, k + 1, 0, b => by simp [hset, hget]
  | x :: r, k + 1, j + 1, b => by simp [hset, hget, hset_hget r k j b]
theorem hget_ext : ∀ {H H' : Heap}, H.length = H'.length → (∀ j, hget H j = hget H' j) → H = H'
  | [], [], _, _ => rfl
  | x :: r, y :: t, hl, h => by
    have h0 := h 0
    simp only [hget] at h0
    rw [h0, hget_ext (H := r) (H' := t) (by simpa using hl) fun j => by simpa [hget] using h (j + 1)]
  | [], _ :: _, hl, _ => by simp at hl
  | _ :: _, [], hl, _ => by simp at hl
theorem hget_app1 : ∀ {H H2 : Heap} {j : Nat}, j < H.length → hget (H ++ H2) j = hget H j
  | x :: r, H2, 0, _ => rfl
  | x :: r, H2, j + 1, h => by simpa [hget] using hget_app1 (H := r) (H2 := H2) (j := j) (by simpa using h)
  | [], H2, j, h => by simp at h
theorem hget_app2 : ∀ {H H2 : Heap} {j : Nat}, H.length ≤ j → hget (H ++ H2) j = hget H2 (j - H.length)
  | [], H2, j, _ => by simp
  | x :: r, H2, 0, h => by simp at h
  | x :: r, H2, j + 1, h => by
    simp only [List.cons_append, hget, List.length_cons]
    rw [hget_app2 (H := r) (by simpa using h)]
    congr 1; omega
theorem hget_rep : ∀ (n j : Nat), hget (List.replicate n Blk.dead) j = .dead
  | 0, j => rfl
  | n + 1, 0 => rfl
  | n + 1, j + 1 => by simpa [List.replicate_succ, hget] using hget_rep n j
theorem Rel.pad (R : Rel C m s tmps w) (n : Nat) : Rel C m { s with H := s.H ++ List.replicate n .dead } tmps w := by
  have hg : ∀ (k : Nat) (b : Blk), (s.H ++ List.replicate n .dead)[k]? = some b → b ≠ .dead → s.H[k]? = some b := by
    intro k b h hb
    by_cases hk : k < s.H.length
    · rwa [List.getElem?_append_left hk] at h
    · rw [List.getElem?_append_right (by omega), List.getElem?_replicate] at h
      split at h
      · cases h; exact absurd rfl hb
      · cases h
  have hok : ∀ b, OK C m s.H w b → ∀ k c l, (s.H ++ List.replicate n .dead)[k]? = some (.own c) → m k = some l → l.g ≠ b := fun b hb k c l h hl => hb.2.2 k c l (hg k _ h (by simp)) hl
  have ho : ∀ b, OK C m s.H w b → OK C m (s.H ++ List.replicate n .dead) w b := fun b h => ⟨h.1, h.2.1, hok b h⟩
  refine R.heap (BelowP.refl _ _) (by simp) (fun _ _ => rfl) hok (fun _ _ => rfl) ?_ ?_ ?_ (fun k b hb h => hg k _ h (by intro e; subst e; cases hb))
  · exact fun k k' c c' l l' h1 h2 h3 h4 h5 => R.inj k k' c c' l l' (hg k _ h1 (by simp)) (hg k' _ h2 (by simp)) h3 h4 h5
  · exact fun k c h => (R.blk k c (hg k _ h (by simp))).ext (fun p v h => h.ext ho fun _ _ => rfl) (by simp) (fun _ _ => rfl) rfl fun _ _ => rfl
  · exact fun k c h => (R.fro k c (hg k _ h (by simp))).ext ho (fun _ _ => rfl) rfl
theorem Rel.move {m' : Map} {b : Blk} {w' : World} {κ : Nat} (R : Rel C m s tmps w) (R' : Rel C m' { s with H := s.H ++ [b] } tmps w') (hκ : s.H[κ]? = some .dead) (ha : ∀ (k i j : Nat), s.H[k]? = some (Blk.anc i j) → j ≠ κ) (ha2 : ∀ i j, b ≠ Blk.anc i j)
    (hn : ∀ t, NoRef κ (s.get t)) (hc : ∀ (k : Nat) (c : List AV), s.H[k]? = some (Blk.own c) → ∀ (j : Nat) (h : j < c.length), NoRef κ c[j]) (hb : ∀ (c : List AV), b = Blk.own c → ∀ (j : Nat) (h : j < c.length), NoRef κ c[j] ∧ NoRef s.H.length c[j]) :
    Rel C (mput m' κ (m' s.H.length)) { s with H := hset s.H κ b } tmps w' ∧ (∀ i v, AVal (Reads (OK C m' (s.H ++ [b]) w') w') m' (s.H ++ [b]) (.ptr s.H.length i) v → AVal (Reads (OK C (mput m' κ (m' s.H.length)) (hset s.H κ b) w') w') (mput m' κ (m' s.H.length)) (hset s.H κ b) (.ptr κ i) v) ∧
      (∀ lo len v, AVal (Reads (OK C m' (s.H ++ [b]) w') w') m' (s.H ++ [b]) (.sl s.H.length lo len) v → AVal (Reads (OK C (mput m' κ (m' s.H.length)) (hset s.H κ b) w') w') (mput m' κ (m' s.H.length)) (hset s.H κ b) (.sl κ lo len) v) := by
  have hκl : κ < s.H.length := (List.getElem?_eq_some_iff.1 hκ).1
  have hml : ∀ k, k ≠ κ → mput m' κ (m' s.H.length) k = m' k := fun k hk => by simp [mput, hk]
  have hmk : mput m' κ (m' s.H.length) κ = m' s.H.length := by simp [mput]
  have hgl : (s.H ++ [b])[s.H.length]? = some b := by simp
  have hg : ∀ (k : Nat) (d : Blk), (hset s.H κ b)[k]? = some d → (k = κ ∧ d = b) ∨ (k ≠ κ ∧ s.H[k]? = some d ∧ (s.H ++ [b])[k]? = some d) := by
    intro k d h
    rw [hset_get] at h
    by_cases e : k = κ
    · rw [if_pos ⟨e, hκl⟩] at h; exact .inl ⟨e, (Option.some.inj h).symm⟩
    · rw [if_neg (by simp [e])] at h
      exact .inr ⟨e, h, by rw [List.getElem?_append_left (List.getElem?_eq_some_iff.1 h).1]; exact h⟩
  have hok : ∀ x, OK C m' (s.H ++ [b]) w' x → OK C (mput m' κ (m' s.H.length)) (hset s.H κ b) w' x := by
    refine fun x hx => ⟨hx.1, hx.2.1, fun k c l h hl => ?_⟩
    rcases hg k _ h with ⟨rfl, e⟩ | ⟨hne, _, h2⟩
    · rw [hmk] at hl
      exact hx.2.2 _ c l (by rw [hgl, e]) hl
    · rw [hml k hne] at hl
      exact hx.2.2 k c l h2 hl
  have hrd : ∀ p v, Reads (OK C m' (s.H ++ [b]) w') w' p v → Reads (OK C (mput m' κ (m' s.H.length)) (hset s.H κ b) w') w' p v := fun p v h => h.mono hok
  have hmv : ∀ k, k ≠ κ → k ≠ s.H.length → k < (s.H ++ [b]).length → mput m' κ (m' s.H.length) k = m' k ∧ k < (hset s.H κ b).length := by
    intro k h1 h2 h3
    refine ⟨hml k h1, ?_⟩
    rw [hset_length]; simp at h3; omega
  have mps : ∀ (k : Nat) (kk : IntKind) (d : Int → Bool) (v : Int → PV), (hset s.H κ b)[k]? = some (Blk.mp kk d v) → ∃ j, (s.H ++ [b])[j]? = some (Blk.mp kk d v) ∧ mput m' κ (m' s.H.length) k = m' j ∧ (k = κ ∧ j = s.H.length ∨ k ≠ κ ∧ j = k ∧ k < s.H.length) := by
    intro k kk d v h
    rcases hg k _ h with ⟨rfl, e⟩ | ⟨hne, h1, h2⟩
    · exact ⟨s.H.length, by rw [hgl, e], hmk, .inl ⟨rfl, rfl⟩⟩
    · exact ⟨k, h2, hml k hne, .inr ⟨hne, rfl, (List.getElem?_eq_some_iff.1 h1).1⟩⟩
  refine ⟨⟨R'.laid.ext hrd, R'.below, R'.base, R'.size, ?_, ?_, ?_, fun t => ?_, fun k kk d v h => ?_, fun k k' kk d v kk' d' v' l l' h1 h2 h3 h4 h5 => ?_, fun k i j h => ?_, ?_⟩, fun i v hv => ?_, fun lo len v hv => ?_⟩
  rotate_left 7
  · have lps : ∀ (k : Nat) (r : Loop), (hset s.H κ b)[k]? = some (Blk.lp r) → ∃ j, (s.H ++ [b])[j]? = some (Blk.lp r) ∧ mput m' κ (m' s.H.length) k = m' j ∧ j = (if k = κ then s.H.length else k) ∧ k < s.H.length := by
      intro k r h
      rcases hg k _ h with ⟨rfl, e⟩ | ⟨hne, h1, h2⟩
      · exact ⟨s.H.length, by rw [hgl, e], hmk, by simp, hκl⟩
      · exact ⟨k, h2, hml k hne, by simp [hne], (List.getElem?_eq_some_iff.1 h1).1⟩
    refine R'.mp.2.2.2.ext (fun k => if k = κ then s.H.length else k) (fun k r h => ?_) (fun k k' r r' h1 h2 e => ?_) (fun _ _ _ _ _ _ => rfl) fun _ _ _ _ _ h => h
    · obtain ⟨j, j1, j2, j3, _⟩ := lps k r h
      simp only [← j3]; exact ⟨j1, j2⟩
    · obtain ⟨_, _, _, _, j4⟩ := lps k r h1
      obtain ⟨_, _, _, _, i4⟩ := lps k' r' h2
      split at e <;> split at e <;> omega
  rotate_left 2
  rotate_left 4
  · obtain ⟨j, j1, j2, _⟩ := mps k kk d v h
    obtain ⟨l, ar, clk, vs, a1, a2, a3, a4, a5, a6, a7⟩ := R'.mp.1 j kk d v j1
    exact ⟨l, ar, clk, vs, by rw [j2]; exact a1, a2, a3, a4, a5, a6, fun z hz => hrd _ _ (a7 z hz)⟩
  · obtain ⟨j, j1, j2, j3⟩ := mps _ _ _ _ h1
    obtain ⟨i, i1, i2, i3⟩ := mps _ _ _ _ h2
    rw [j2] at h3; rw [i2] at h4
    have := R'.mp.2.1 _ _ _ _ _ _ _ _ _ _ j1 i1 h3 h4 h5
    omega
  · rcases hg k _ h with ⟨rfl, e⟩ | ⟨hne, h1, h2⟩
    · exact absurd e.symm (ha2 i j)
    · obtain ⟨c1, c2⟩ := R'.mp.2.2.1 k i j h2
      have hj := (R.mp.2.2.1 k i j h1).1
      exact ⟨by rw [hset_length]; exact hj, by rw [hml j (ha k i j h1)]; exact c2⟩
  rotate_left 2
  · intro k k' c c' l l' h1 h2 h3 h4 h5
    rcases hg k _ h1 with ⟨rfl, e1⟩ | ⟨n1, g1, f1⟩ <;> rcases hg k' _ h2 with ⟨rfl, e2⟩ | ⟨n2, g2, f2⟩
    · rfl
    · rw [hmk] at h3; rw [hml k' n2] at h4
      have := R'.inj _ k' c c' l l' (by rw [hgl, e1]) f2 h3 h4 h5
      have := (List.getElem?_eq_some_iff.1 g2).1
      omega
    · rw [hmk] at h4; rw [hml k n1] at h3
      have := R'.inj k _ c c' l l' f1 (by rw [hgl, e2]) h3 h4 h5
      have := (List.getElem?_eq_some_iff.1 g1).1
      omega
    · rw [hml k n1] at h3; rw [hml k' n2] at h4
      exact R'.inj k k' c c' l l' f1 f2 h3 h4 h5
  · intro k c h
    rcases hg k _ h with ⟨rfl, e1⟩ | ⟨n1, g1, f1⟩
    · rcases R'.blk _ c (by rw [hgl, e1]) with ⟨a1, a2⟩ | ⟨l, cur, e, a1, a2, a3, a4, a5, a6, a7⟩
      · exact .inl ⟨a1, by rw [hmk]; exact a2⟩
      · exact .inr ⟨l, cur, e, by rw [hmk]; exact a1, a2, a3, a4, a5, a6, fun j hj => (a7 j hj).extN hrd hmv (hb c e1.symm j hj).1 (hb c e1.symm j hj).2⟩
    · rcases R'.blk k c f1 with ⟨a1, a2⟩ | ⟨l, cur, e, a1, a2, a3, a4, a5, a6, a7⟩
      · exact .inl ⟨a1, by rw [hml k n1]; exact a2⟩
      · refine .inr ⟨l, cur, e, by rw [hml k n1]; exact a1, a2, a3, a4, a5, a6, fun j hj => (a7 j hj).extN hrd hmv (hc k c g1 j hj) ?_⟩
        rcases R.blk k c g1 with ⟨b1, _⟩ | ⟨l2, cur2, e2, _, _, _, _, _, _, b7⟩
        · subst b1; simp at hj
        · exact (b7 j hj).noRef (Nat.le_refl _)
  · intro k c h
    rcases hg k _ h with ⟨rfl, e1⟩ | ⟨n1, g1, f1⟩
    · rcases R'.fro _ c (by rw [hgl, e1]) with ⟨a1, a2⟩ | ⟨l, vs, a1, a2, a3, a4⟩
      · exact .inl ⟨a1, by rw [hmk]; exact a2⟩
      · exact .inr ⟨l, vs, by rw [hmk]; exact a1, hok _ a2, a3, fun j hj => ⟨(a4 j hj).1, (a4 j hj).2.mono hok⟩⟩
    · exact (R'.fro k c f1).ext hok (fun _ _ => rfl) (hml k n1)
  · exact (R'.slot t).extN hrd hmv (hn t) ((R.slot t).noRef (Nat.le_refl _))
  · cases hv with
    | ptr _ _ _ hk h =>
      obtain ⟨l, h, r⟩ := h
      exact .ptr _ _ _ (by rw [hset_length]; exact hκl) ⟨l, by rw [hmk]; exact h, r⟩
  · cases hv with
    | sl _ _ _ _ hk h =>
      refine .sl _ _ _ _ (by rw [hset_length]; exact hκl) ?_
      rcases h with h | ⟨l, cap, h, r⟩
      · exact .inl h
      · exact .inr ⟨l, cap, by rw [hmk]; exact h, r⟩
end
end Go.Pv
namespace Go.Pv
open Go.RowKit
inductive Cls where
  | f
  | ld (k : Nat)
  | st (k : Nat)
  | nw (k : Nat)
  | ap (k k' : Nat)
  | ms (l : List (Nat × Blk)) 
instance : Inhabited Cls := ⟨.f⟩
def Cls.tch : Cls → Nat → Bool
  | .f, _ => false
  | .ld k, b => k == b
  | .st k, b => k == b
  | .nw k, b => k == b
  | .ap k k', b => k == b || k' == b
  | .ms l, b => l.any fun p => p.1 == b
def Cls.wrt : Cls → Nat → Bool
  | .st k, b => k == b
  | .nw k, b => k == b
  | .ap k k', b => k == b || k' == b
  | .ms l, b => l.any fun p => p.1 == b
  | _, _ => false
def Cls.mk : Cls → Option Nat
  | .nw k => some k
  | .ap _ k' => some k'
  | _ => none
def confl : Cls → Cls → Bool
  | .f, _ => false
  | _, .f => false
  | .ld _, .ld _ => false
  | .ld a, y => y.tch a
  | .st a, y => y.tch a
  | .nw a, y => y.tch a
  | .ap a a', y => y.tch a || y.tch a'
  | .ms l, y => l.any fun p => y.tch p.1
theorem Cls.wrt_tch {c : Cls} {b : Nat} (h : c.wrt b = true) : c.tch b = true := by
  cases c <;> simp_all [Cls.wrt, Cls.tch]
theorem confl_tch {x y : Cls} (h : confl x y = false) {b : Nat} (hx : x.tch b = true) (hy : y.tch b = true) : (∃ k, x = .ld k) ∧ ∃ k, y = .ld k := by
  have any_no : ∀ {l : List (Nat × Blk)} {q : Nat → Bool}, (l.any fun p => q p.1) = false → (l.any fun p => p.1 == b) = true → q b = false := by
    intro l q h1 h2
    obtain ⟨p, hp, e⟩ := List.any_eq_true.1 h2
    have e : p.1 = b := by simpa using e
    have := List.any_eq_false.1 h1 p hp
    rw [e] at this
    simpa using this
  cases x with
  | ms l =>
    exfalso
    cases y with
    | f => simp [Cls.tch] at hy
    | _ =>
      have h' := any_no (q := fun k => Cls.tch _ k) (by simpa [confl] using h) (by simpa [Cls.tch] using hx)
      rw [hy] at h'; cases h'
  | _ =>
    cases y with
    | ms l =>
      exfalso
      simp only [confl, Cls.tch, beq_iff_eq, Bool.or_eq_true, Bool.or_eq_false_iff] at h hx hy
      first
        | (cases hx; done)
        | (subst hx; rw [hy] at h; cases h; done)
        | (rcases hx with hx | hx <;> subst hx <;> first | (rw [hy] at h; exact absurd h.1 (by decide)) | (rw [hy] at h; exact absurd h.2 (by decide)))
    | _ => first | exact ⟨⟨_, rfl⟩, ⟨_, rfl⟩⟩ | (exfalso; simp [confl, Cls.tch] at h hx hy; done) | (exfalso; simp [confl, Cls.tch] at h hx hy; omega)
theorem confl_spec {x y : Cls} (h : confl x y = false) (b : Nat) : ¬ (x.tch b = true ∧ y.wrt b = true) ∧ ¬ (x.wrt b = true ∧ y.tch b = true) := by
  constructor
  · rintro ⟨h1, h2⟩
    obtain ⟨_, k, e⟩ := confl_tch h h1 (Cls.wrt_tch h2)
    subst e; cases h2
  · rintro ⟨h1, h2⟩
    obtain ⟨⟨k, e⟩, _⟩ := confl_tch h (Cls.wrt_tch h1) h2
    subst e; cases h1
structure I2 where
  c : Cls
  av : AV
  b : Blk
  pu : Bool
instance : Inhabited I2 := ⟨⟨.f, .dead, .dead, false⟩⟩
def I2.blks (x : I2) : List Blk :=
  match x.c with
  | .ms l => l.map (·.2)
  | _ => [x.b]
def I2.Pu (x : I2) : Prop := x.pu = true → ∀ c, Blk.own c ∈ x.blks → ∀ (q : Nat) (h : q < c.length) (κ : Nat), NoRef κ c[q]
def setL : Heap → List (Nat × Blk) → Heap
  | H, [] => H
  | H, p :: l => hset (setL H l) p.1 p.2
def lkB (j : Nat) : List (Nat × Blk) → Blk
  | [] => .dead
  | p :: l => if p.1 = j then p.2 else lkB j l
theorem setL_length : ∀ (l : List (Nat × Blk)) (H : Heap), (setL H l).length = H.length
  | [], H => rfl
  | p :: l, H => by rw [setL, hset_length, setL_length l H]
theorem setL_hget (H : Heap) (j : Nat) : ∀ l : List (Nat × Blk), hget (setL H l) j = if (l.any fun p => p.1 == j) = true ∧ j < H.length then lkB j l else hget H j
  | [] => by simp [setL]
  | p :: l => by
    rw [setL, hset_hget, setL_length, setL_hget H j l]
    simp only [List.any_cons, Bool.or_eq_true, beq_iff_eq, lkB]
    by_cases h : p.1 = j
    · subst h
      by_cases hl : p.1 < H.length
      · rw [if_pos ⟨rfl, hl⟩, if_pos ⟨.inl rfl, hl⟩, if_pos rfl]
      · rw [if_neg (fun hh => hl hh.2), if_neg (fun hh => hl hh.2), if_neg (fun hh => hl hh.2)]
    · rw [if_neg (fun hh => h hh.1.symm), if_neg h]
      by_cases h2 : (l.any fun p => p.1 == j) = true ∧ j < H.length
      · rw [if_pos h2, if_pos ⟨.inr h2.1, h2.2⟩]
      · rw [if_neg h2, if_neg (fun hh => h2 ⟨hh.1.resolve_left h, hh.2⟩)]
theorem lkB_mem {j : Nat} : ∀ {l : List (Nat × Blk)}, lkB j l = .dead ∨ ∃ p ∈ l, lkB j l = p.2
  | [] => .inl rfl
  | p :: l => by
    simp only [lkB]
    by_cases h : p.1 = j
    · rw [if_pos h]; exact .inr ⟨p, by simp, rfl⟩
    · rw [if_neg h]
      rcases lkB_mem (l := l) with h | ⟨q, hq, e⟩
      · exact .inl h
      · exact .inr ⟨q, by simp [hq], e⟩
def updC (x : I2) (H : Heap) : Heap :=
  match x.c with
  | .ms l => setL H l
  | .st k => hset H k x.b
  | .nw k => hset H k x.b
  | .ap k k' => hset (hset H k .dead) k' x.b
  | _ => H
def nxtH (x : I2) (H : Heap) : Heap :=
  match x.c with
  | .ms l => setL H l
  | .st k => hset H k x.b
  | .nw _ => H ++ [x.b]
  | .ap k _ => hset H k .dead ++ [x.b]
  | _ => H
def wv (x : I2) (j : Nat) : Blk :=
  match x.c with
  | .ap _ k' => if k' = j then x.b else .dead
  | .ms l => lkB j l
  | _ => x.b
theorem wv_blks (x : I2) (j : Nat) : wv x j = .dead ∨ wv x j ∈ x.blks := by
  unfold wv I2.blks
  cases x.c with
  | ap k k' =>
    simp only
    split
    · exact .inr (by simp)
    · exact .inl rfl
  | ms l =>
    simp only
    rcases lkB_mem (j := j) (l := l) with h | ⟨p, hp, e⟩
    · exact .inl h
    · exact .inr (by rw [e]; exact List.mem_map.2 ⟨p, hp, rfl⟩)
  | _ => exact .inr (by simp)
theorem updC_len (x : I2) (H : Heap) : (updC x H).length = H.length := by
  unfold updC; split <;> simp [hset_length, setL_length]
theorem updC_hget (x : I2) (H : Heap) (j : Nat) : hget (updC x H) j = if x.c.wrt j = true ∧ j < H.length then wv x j else hget H j := by
  obtain ⟨c, av, b, pu⟩ := x
  cases c with
  | f => simp [updC, Cls.wrt]
  | ms l => simp only [updC, wv, Cls.wrt]; exact setL_hget H j l
  | ld k => simp [updC, Cls.wrt]
  | st k =>
    simp only [updC, wv, Cls.wrt, beq_iff_eq]
    rw [hset_hget]
    by_cases h : j = k
    · subst h; simp
    · rw [if_neg (fun hh => h hh.1), if_neg (fun hh => h hh.1.symm)]
  | nw k =>
    simp only [updC, wv, Cls.wrt, beq_iff_eq]
    rw [hset_hget]
    by_cases h : j = k
    · subst h; simp
    · rw [if_neg (fun hh => h hh.1), if_neg (fun hh => h hh.1.symm)]
  | ap k k' =>
    simp only [updC, wv, Cls.wrt, Bool.or_eq_true, beq_iff_eq]
    rw [hset_hget, hset_length, hset_hget]
    by_cases h : j = k'
    · subst h
      by_cases hl : j < H.length
      · rw [if_pos ⟨rfl, hl⟩, if_pos ⟨.inr rfl, hl⟩, if_pos rfl]
      · rw [if_neg (fun hh => hl hh.2), if_neg (show ¬ (j = k ∧ k < H.length) from fun hh => hl (by rw [hh.1]; exact hh.2)), if_neg (show ¬ ((k = j ∨ j = j) ∧ j < H.length) from fun hh => hl hh.2)]
    · rw [if_neg (fun hh => h hh.1)]
      by_cases h2 : j = k
      · subst h2
        simp [Ne.symm h]
      · rw [if_neg (fun hh => h2 hh.1), if_neg (fun hh => by rcases hh.1 with e | e; exact h2 e.symm; exact h e.symm)]
def Loc2 (P : Program) (o : Oper) (s : St) (x : I2) : Prop :=
  match x.c with
  | .ms l => ((∀ p ∈ l, p.1 < s.H.length) ∧ ∀ p ∈ l, ∀ i j, p.2 ≠ .anc i j) ∧ ∀ s2 : St, s2.n = s.n → Agree o s s2 → (∀ p ∈ l, p.1 < s2.H.length ∧ hget s2.H p.1 = hget s.H p.1) → DoesW P o s2 x.av (setL s2.H l)
  | .f => ∀ s2 : St, s2.n = s.n → Agree o s s2 → DoesW P o s2 x.av s2.H
  | .ld k => k < s.H.length ∧ ∀ s2 : St, s2.n = s.n → Agree o s s2 → hget s2.H k = hget s.H k → DoesW P o s2 x.av s2.H
  | .st k => k < s.H.length ∧ ∀ s2 : St, s2.n = s.n → Agree o s s2 → hget s2.H k = hget s.H k → DoesW P o s2 x.av (hset s2.H k x.b)
  | .nw k => k = s.H.length ∧ ∀ s2 : St, s2.n = s.n → Agree o s s2 → s2.H[k]? = some .dead → (∀ t, NoRef k (s2.get t)) → (∀ (j : Nat) (c : List AV), s2.H[j]? = some (Blk.own c) → ∀ (i : Nat) (h : i < c.length), NoRef k c[i]) → (∀ (b i j : Nat), s2.H[b]? = some (Blk.anc i j) → j ≠ k) → DoesW P o s2 x.av (hset s2.H k x.b)
  | .ap q k => (q < s.H.length ∧ k = s.H.length) ∧ ∀ s2 : St, s2.n = s.n → Agree o s s2 → hget s2.H q = hget s.H q → s2.H[k]? = some .dead → (∀ t, NoRef k (s2.get t)) → (∀ (j : Nat) (c : List AV), s2.H[j]? = some (Blk.own c) → ∀ (i : Nat) (h : i < c.length), NoRef k c[i]) → (∀ (b i j : Nat), s2.H[b]? = some (Blk.anc i j) → j ≠ k) → DoesW P o s2 x.av (hset (hset s2.H q .dead) k x.b)
inductive Run2 (P : Program) (all : Array Oper) : List Oper → List I2 → St → St → Prop
  | nil (s : St) : Run2 P all [] [] s s
  | skip {o : Oper} {r : List Oper} {xs : List I2} {s s' : St} (hg : guardA all s o = some false) (hd : ∀ t, o.dst = some t → t < s.n) (hr : Run2 P all r xs (s.put o.dst (.p (.tup []))) s') : Run2 P all (o :: r) (⟨.f, .p (.tup []), .dead, false⟩ :: xs) s s'
  | op {o : Oper} {r : List Oper} {x : I2} {xs : List I2} {s s' : St} (hg : guardA all s o = some true) (hd : ∀ t, o.dst = some t → t < s.n) (h : Loc2 P o s x) (hp : x.Pu) (hr : Run2 P all r xs (({ s with H := nxtH x s.H } : St).put o.dst x.av) s') : Run2 P all (o :: r) (x :: xs) s s'
section
variable {P : Program} {ops : Array Oper} {I : Nat → I2} {s : St}
def cS (ops : Array Oper) (I : Nat → I2) (s : St) : Nat → St
  | 0 => s
  | k + 1 => ({ cS ops I s k with H := nxtH (I k) (cS ops I s k).H } : St).put (opAt ops k).dst (I k).av
structure Fact2 (P : Program) (ops : Array Oper) (I : Nat → I2) (s : St) (j : Nat) (o : Oper) : Prop where
  pu : (I j).Pu
  dst : ∀ t, o.dst = some t → t < s.n
  how : (guardA ops (cS ops I s j) o = some false ∧ I j = ⟨.f, .p (.tup []), .dead, false⟩) ∨ (guardA ops (cS ops I s j) o = some true ∧ Loc2 P o (cS ops I s j) (I j))
theorem cS_n : ∀ k, (cS ops I s k).n = s.n
  | 0 => rfl
  | k + 1 => by simp only [cS]; rw [St.put_n]; exact cS_n k
theorem facts2 {s' : St} : ∀ (l : List Oper) (xs : List I2) (k : Nat), (∀ i, l[i]? = ops[k + i]?) → (∀ i x, xs[i]? = some x → I (k + i) = x) → k + l.length = ops.size →
    Run2 P ops l xs (cS ops I s k) s' → (∀ i o, k ≤ i → ops[i]? = some o → Fact2 P ops I s i o) ∧ s' = cS ops I s ops.size
  | [], xs, k, hl, hx, hk, hr => by
    cases hr
    simp at hk
    subst hk
    refine ⟨fun i o hi ho => ?_, rfl⟩
    have := (Array.getElem?_eq_some_iff.1 ho).1
    omega
  | o :: r, xs, k, hl, hx, hk, hr => by
    have ho : ops[k]? = some o := by have := hl 0; simpa using this.symm
    have hod : opAt ops k = o := opAt_of ho
    have hl' : ∀ i, r[i]? = ops[k + 1 + i]? := fun i => by have := hl (i + 1); simp only [List.getElem?_cons_succ] at this; rw [this]; congr 1; omega
    have hn := cS_n (ops := ops) (I := I) (s := s) k
    cases hr with
    | skip hg hd hr =>
      rename_i xs
      have hIk : I k = ⟨.f, .p (.tup []), .dead, false⟩ := by have := hx 0 _ rfl; simpa using this
      have e : cS ops I s (k + 1) = (cS ops I s k).put o.dst (.p (.tup [])) := by simp only [cS]; rw [hIk, hod]; rfl
      rw [← e] at hr
      obtain ⟨g1, g2⟩ := facts2 r xs (k + 1) hl' (fun i x h => by have := hx (i + 1) x (by simpa using h); rw [← this]; congr 1; omega) (by simp at hk; omega) hr
      refine ⟨fun i o' hi ho' => ?_, g2⟩
      by_cases hik : i = k
      · subst hik
        rw [ho] at ho'; cases ho'
        exact ⟨by rw [hIk]; intro h; (cases h), fun t ht => by rw [← hn]; exact hd t ht, .inl ⟨hg, hIk⟩⟩
      · exact g1 i o' (by omega) ho'
    | op hg hd h hpu hr =>
      rename_i x xs
      have hIk : I k = x := by have := hx 0 _ rfl; simpa using this
      have e : cS ops I s (k + 1) = ({ cS ops I s k with H := nxtH x (cS ops I s k).H } : St).put o.dst x.av := by simp only [cS]; rw [hIk, hod]
      rw [← e] at hr
      obtain ⟨g1, g2⟩ := facts2 r xs (k + 1) hl' (fun i x h => by have := hx (i + 1) x (by simpa using h); rw [← this]; congr 1; omega) (by simp at hk; omega) hr
      refine ⟨fun i o' hi ho' => ?_, g2⟩
      by_cases hik : i = k
      · subst hik
        rw [ho] at ho'; cases ho'
        exact ⟨by rw [hIk]; exact hpu, fun t ht => by rw [← hn]; exact hd t ht, .inr ⟨hg, by rw [hIk]; exact h⟩⟩
      · exact g1 i o' (by omega) ho'
def tD (ops : Array Oper) (I : Nat → I2) (s : St) (L : Nat) (D : Nat → Bool) : Nat → St
  | 0 => { s with H := s.H ++ List.replicate L .dead }
  | k + 1 => if D k then ({ tD ops I s L D k with H := updC (I k) (tD ops I s L D k).H } : St).put (opAt ops k).dst (I k).av else tD ops I s L D k
variable {L : Nat}
theorem tD_n (D : Nat → Bool) : ∀ k, (tD ops I s L D k).n = s.n
  | 0 => rfl
  | k + 1 => by
    simp only [tD]
    split
    · rw [St.put_n]; exact tD_n D k
    · exact tD_n D k
theorem tD_len (D : Nat → Bool) : ∀ k, (tD ops I s L D k).H.length = s.H.length + L
  | 0 => by simp [tD]
  | k + 1 => by
    simp only [tD]
    split
    · rw [St.put_H, updC_len]; exact tD_len D k
    · exact tD_len D k
theorem tD_get (D : Nat → Bool) (k t : Nat) : (tD ops I s L D (k + 1)).get t = if D k = true ∧ (opAt ops k).dst = some t then (I k).av else (tD ops I s L D k).get t := by
  simp only [tD]
  by_cases h : D k = true
  · rw [if_pos h, get_put]
    by_cases hd : (opAt ops k).dst = some t
    · have hr : D k = true ∧ (opAt ops k).dst = some t := ⟨h, hd⟩
      rw [if_pos hd, if_pos hr]
    · have hr : ¬ (D k = true ∧ (opAt ops k).dst = some t) := fun hh => hd hh.2
      rw [if_neg hd, if_neg hr]; rfl
  · have hr : ¬ (D k = true ∧ (opAt ops k).dst = some t) := fun hh => h hh.1
    rw [if_neg h, if_neg hr]
theorem tD_hget (D : Nat → Bool) (k b : Nat) : hget (tD ops I s L D (k + 1)).H b = if D k = true ∧ (I k).c.wrt b = true ∧ b < s.H.length + L then wv (I k) b else hget (tD ops I s L D k).H b := by
  simp only [tD]
  by_cases h : D k = true
  · rw [if_pos h, St.put_H]
    simp only
    rw [updC_hget, tD_len]
    by_cases hd : (I k).c.wrt b = true ∧ b < s.H.length + L
    · rw [if_pos hd, if_pos ⟨h, hd⟩]
    · rw [if_neg hd, if_neg (fun hh => hd hh.2)]
  · rw [if_neg h, if_neg (fun hh => h hh.1)]
theorem tD_get_stay (D : Nat → Bool) (t : Nat) : ∀ k n, k ≤ n → (∀ i, k ≤ i → i < n → D i = true → (opAt ops i).dst ≠ some t) → (tD ops I s L D n).get t = (tD ops I s L D k).get t := by
  intro k n hkn h
  induction n with
  | zero => obtain rfl : k = 0 := by omega
            rfl
  | succ n ih =>
    by_cases hk : k = n + 1
    · rw [hk]
    · rw [tD_get, if_neg (fun hh => h n (by omega) (by omega) hh.1 hh.2)]
      exact ih (by omega) fun i h1 h2 => h i h1 (by omega)
theorem tD_hget_stay (D : Nat → Bool) (b : Nat) : ∀ k n, k ≤ n → (∀ i, k ≤ i → i < n → D i = true → (I i).c.wrt b = false) → hget (tD ops I s L D n).H b = hget (tD ops I s L D k).H b := by
  intro k n hkn h
  induction n with
  | zero => obtain rfl : k = 0 := by omega
            rfl
  | succ n ih =>
    by_cases hk : k = n + 1
    · rw [hk]
    · rw [tD_hget, if_neg (fun hh => by have := h n (by omega) (by omega) hh.1; rw [this] at hh; simp at hh)]
      exact ih (by omega) fun i h1 h2 => h i h1 (by omega)
theorem tD_get_same (D D' : Nat → Bool) (t : Nat) : ∀ k, (∀ i, i < k → (opAt ops i).dst = some t → D i = D' i) → (tD ops I s L D k).get t = (tD ops I s L D' k).get t := by
  intro k h
  induction k with
  | zero => rfl
  | succ k ih =>
    rw [tD_get, tD_get, ih fun i hi => h i (by omega)]
    by_cases hd : (opAt ops k).dst = some t
    · rw [h k (by omega) hd]
    · rw [if_neg (fun hh => hd hh.2), if_neg (fun hh => hd hh.2)]
theorem tD_hget_same (D D' : Nat → Bool) (b : Nat) : ∀ k, (∀ i, i < k → (I i).c.wrt b = true → D i = D' i) → hget (tD ops I s L D k).H b = hget (tD ops I s L D' k).H b := by
  intro k h
  induction k with
  | zero => rfl
  | succ k ih =>
    rw [tD_hget, tD_hget, ih fun i hi => h i (by omega)]
    by_cases hd : (I k).c.wrt b = true
    · rw [h k (by omega) hd]
    · rw [if_neg (fun hh => hd hh.2.1), if_neg (fun hh => hd hh.2.1)]
def Fits (I : Nat → I2) (s : St) (ops : Array Oper) (n : Nat) : Prop := ∀ k, k < n → match (I k).c with
  | .ld j => j < (cS ops I s k).H.length
  | .st j => j < (cS ops I s k).H.length
  | .nw j => j = (cS ops I s k).H.length
  | .ap i j => i < (cS ops I s k).H.length ∧ j = (cS ops I s k).H.length
  | .ms l => ∀ p ∈ l, p.1 < (cS ops I s k).H.length
  | .f => True
theorem nxtH_len (x : I2) (H : Heap) : H.length ≤ (nxtH x H).length := by
  unfold nxtH; split <;> simp [hset_length, setL_length]
theorem cS_len_mono : ∀ {k n : Nat}, k ≤ n → (cS ops I s k).H.length ≤ (cS ops I s n).H.length := by
  intro k n h
  induction n with
  | zero => obtain rfl : k = 0 := by omega
            exact Nat.le_refl _
  | succ n ih =>
    by_cases hk : k = n + 1
    · rw [hk]; exact Nat.le_refl _
    · refine Nat.le_trans (ih (by omega)) ?_
      simp only [cS]
      rw [St.put_H]
      exact nxtH_len _ _
theorem hget_out : ∀ {H : Heap} {j : Nat}, H.length ≤ j → hget H j = .dead
  | [], j, _ => by cases j <;> rfl
  | x :: r, 0, h => by simp at h
  | x :: r, j + 1, h => hget_out (H := r) (by simpa using h)
theorem tD_all {n : Nat} (hf : Fits I s ops n) (hL : (cS ops I s n).H.length = s.H.length + L) : ∀ k, k ≤ n → (∀ t, (tD ops I s L (fun _ => true) k).get t = (cS ops I s k).get t) ∧ ∀ b, hget (tD ops I s L (fun _ => true) k).H b = hget (cS ops I s k).H b := by
  intro k
  induction k with
  | zero =>
    intro _
    refine ⟨fun t => rfl, fun b => ?_⟩
    simp only [tD, cS]
    by_cases hb : b < s.H.length
    · rw [hget_app1 hb]
    · rw [hget_app2 (by omega), hget_rep, hget_out (by omega)]
  | succ k ih =>
    intro hk
    obtain ⟨ih1, ih2⟩ := ih (by omega)
    have hle := cS_len_mono (ops := ops) (I := I) (s := s) (show k + 1 ≤ n from hk)
    have hlen : (nxtH (I k) (cS ops I s k).H).length ≤ s.H.length + L := by
      rw [← hL]
      refine Nat.le_trans ?_ hle
      simp only [cS]; rw [St.put_H]; exact Nat.le_refl _
    refine ⟨fun t => ?_, fun b => ?_⟩
    · rw [tD_get]
      simp only [cS]
      rw [get_put, ih1]
      by_cases hd : (opAt ops k).dst = some t
      · rw [if_pos ⟨trivial, hd⟩, if_pos hd]
      · rw [if_neg (fun hh => hd hh.2), if_neg hd]; rfl
    · rw [tD_hget, ih2]
      simp only [cS]
      rw [St.put_H]
      simp only
      have hfk := hf k (by omega)
      unfold nxtH at hlen ⊢
      unfold wv
      cases hc : (I k).c with
      | f => simp [Cls.wrt]
      | ld j => simp [Cls.wrt]
      | ms l =>
        rw [hc] at hfk
        have hjj := cS_len_mono (ops := ops) (I := I) (s := s) (show k ≤ n by omega)
        simp only [Cls.wrt, true_and]
        rw [setL_hget]
        by_cases hb : (l.any fun p => p.1 == b) = true
        · obtain ⟨p, hp, e⟩ := List.any_eq_true.1 hb
          have e : p.1 = b := by simpa using e
          have := hfk p hp
          rw [if_pos ⟨hb, by omega⟩, if_pos ⟨hb, by omega⟩]
        · rw [if_neg (fun hh => hb hh.1), if_neg (fun hh => hb hh.1)]
      | st j =>
        rw [hc] at hfk
        have hjj := cS_len_mono (ops := ops) (I := I) (s := s) (show k ≤ n by omega)
        simp only [Cls.wrt, beq_iff_eq, true_and]
        rw [hset_hget]
        by_cases hb : b = j
        · subst hb
          rw [if_pos ⟨rfl, by omega⟩, if_pos ⟨rfl, hfk⟩]
        · rw [if_neg (fun hh => hb hh.1.symm), if_neg (fun hh => hb hh.1)]
      | nw j =>
        rw [hc] at hfk hlen
        simp only [List.length_append, List.length_singleton] at hlen
        simp only [Cls.wrt, beq_iff_eq, true_and]
        by_cases hb : b = j
        · subst hb
          rw [if_pos ⟨rfl, by omega⟩, hget_app2 (by omega), hfk, Nat.sub_self]; rfl
        · rw [if_neg (fun hh => hb hh.1.symm)]
          by_cases hlt : b < (cS ops I s k).H.length
          · rw [hget_app1 hlt]
          · rw [hget_out (by omega), hget_out (by simp; omega)]
      | ap i j =>
        rw [hc] at hfk hlen
        obtain ⟨hf1, hf2⟩ := hfk
        simp only [List.length_append, List.length_singleton, hset_length] at hlen
        have hjj := cS_len_mono (ops := ops) (I := I) (s := s) (show k ≤ n by omega)
        simp only [Cls.wrt, Bool.or_eq_true, beq_iff_eq, true_and]
        by_cases hb : b = j
        · subst hb
          rw [if_pos ⟨.inr rfl, by omega⟩, if_pos rfl, hget_app2 (by rw [hset_length]; omega), hset_length, hf2, Nat.sub_self]; rfl
        · by_cases hb2 : b = i
          · subst hb2
            rw [if_pos ⟨.inl rfl, by omega⟩, if_neg (Ne.symm hb), hget_app1 (by rw [hset_length]; exact hf1), hset_hget, if_pos ⟨rfl, hf1⟩]
          · rw [if_neg (fun hh => by rcases hh.1 with e | e; exact hb2 e.symm; exact hb e.symm)]
            by_cases hlt : b < (cS ops I s k).H.length
            · rw [hget_app1 (by rw [hset_length]; exact hlt), hset_hget, if_neg (fun hh => hb2 hh.1)]
            · rw [hget_out (by omega), hget_out (by simp [hset_length]; omega)]
def apart2 (ops : Array Oper) (I : Nat → I2) (i j : Nat) : Bool := (opAt ops i).apart ops (opAt ops j) && !confl (I i).c (I j).c
def blkNr (κ : Nat) : Blk → Bool
  | .own c => c.all (nrA κ)
  | _ => true
def notAnc : Blk → Bool
  | .anc _ _ => false
  | _ => true
theorem notAnc_spec {b : Blk} (h : notAnc b = true) (i j : Nat) : b ≠ .anc i j := by intro e; subst e; cases h
def I2.na (x : I2) : Bool :=
  match x.c with
  | .ms _ => true
  | _ => notAnc x.b
def draw2OK (ops : Array Oper) (xs : List I2) : Bool :=
  (List.range ops.size).all fun j =>
    ((opAt ops j).after.toList.all fun e => !Region.binds .any e || e.on < j) &&
    ((List.range j).all fun i => apart2 ops (fun i => xs.getD i default) i j || ((anc ops).getD j 0).testBit i) &&
    (match (xs.getD j default).c.mk with
     | some κ => (List.range ops.size).all fun i => i == j || ((anc ops).getD i 0).testBit j || (nrA κ (xs.getD i default).av && ((xs.getD i default).pu || (xs.getD i default).blks.all (blkNr κ)))
     | none => true) && (xs.getD j default).na
theorem draw2OK_spec {xs : List I2} (h : draw2OK ops xs = true) : (∀ j o, ops[j]? = some o → ∀ e ∈ o.after.toList, Region.binds .any e = true → e.on < j) ∧
    (∀ i j, i < j → j < ops.size → apart2 ops (fun i => xs.getD i default) i j = false → ((anc ops).getD j 0).testBit i = true) ∧
    (∀ j κ, j < ops.size → (xs.getD j default).c.mk = some κ → ∀ i, i < ops.size → i ≠ j → ((anc ops).getD i 0).testBit j = false → NoRef κ (xs.getD i default).av ∧ ((xs.getD i default).pu = false → ∀ c, Blk.own c ∈ (xs.getD i default).blks → ∀ (q : Nat) (h : q < c.length), NoRef κ c[q])) ∧
    (∀ j, j < ops.size → (xs.getD j default).na = true) := by
  unfold draw2OK at h
  rw [List.all_eq_true] at h
  refine ⟨?_, ?_, ?_, ?_⟩
  rotate_left 3
  · intro j hj
    have := h j (by simpa using hj)
    rw [Bool.and_eq_true] at this
    exact this.2
  · intro j o ho e he hb
    have hj := (Array.getElem?_eq_some_iff.1 ho).1
    have := h j (by simpa using hj)
    rw [Bool.and_eq_true, Bool.and_eq_true, Bool.and_eq_true] at this
    have h1 := (List.all_eq_true.1 this.1.1.1) e (by rw [opAt_of ho]; exact he)
    rw [hb] at h1
    simpa using h1
  · intro i j hij hj ha
    have := h j (by simpa using hj)
    rw [Bool.and_eq_true, Bool.and_eq_true, Bool.and_eq_true] at this
    have h1 := (List.all_eq_true.1 this.1.1.2) i (by simpa using hij)
    rw [ha, Bool.false_or] at h1
    exact h1
  · intro j κ hj hc i hi hij hb
    have := h j (by simpa using hj)
    rw [Bool.and_eq_true, Bool.and_eq_true, Bool.and_eq_true] at this
    have h1 := this.1.2
    rw [hc] at h1
    have h2 := (List.all_eq_true.1 h1) i (by simpa using hi)
    rw [hb] at h2
    have hij' : (i == j) = false := by simpa using hij
    rw [hij', Bool.false_or, Bool.false_or, Bool.and_eq_true] at h2
    refine ⟨nrA_spec h2.1, fun hpu c hc' q hq => ?_⟩
    have h3 := h2.2
    rw [hpu, Bool.false_or] at h3
    exact nrA_spec ((List.all_eq_true.1 ((List.all_eq_true.1 h3) _ hc')) _ (List.getElem_mem hq))
end
end Go.Pv
namespace Go.Pv
open Go.RowKit
theorem get_of_hget : ∀ {H : Heap} {k : Nat} {b : Blk}, k < H.length → hget H k = b → H[k]? = some b
  | x :: r, 0, b, _, h => by simp only [hget] at h; simp [h]
  | x :: r, k + 1, b, hk, h => by simpa using get_of_hget (H := r) (by simpa using hk) h
  | [], k, b, hk, _ => by simp at hk
theorem hget_of_get : ∀ {H : Heap} {k : Nat} {b : Blk}, H[k]? = some b → hget H k = b
  | x :: r, 0, b, h => by simpa [hget] using h
  | x :: r, k + 1, b, h => hget_of_get (H := r) (by simpa using h)
  | [], k, b, h => by simp at h
section
variable {P : Program} {ops : Array Oper}
theorem draw2_sound {Q : Exit → Act → World → Prop} {C : Ctx} {ds : List Deferred} {s s' : St} {xs : List I2} (hok : draw2OK ops xs = true) (hrun : Run2 P ops ops.toList xs s s') {m : Map} {a : Act} {w : World} (R : Rel C m s a.tmps w) (hd : a.defers = ds)
    (hQ : ∀ m' (a' : Act) w', Rel C m' s' a'.tmps w' → a'.defers = ds → Q .normal a' w') : anyR P .any ops Q ops.size (Array.replicate ops.size false) a w := by
  obtain ⟨hedge, hconf, hnr, hna⟩ := draw2OK_spec hok
  obtain ⟨I, hI⟩ : ∃ I : Nat → I2, I = fun i => xs.getD i default := ⟨_, rfl⟩
  rw [← hI] at hconf
  have hna0 : ∀ j, j < ops.size → (I j).na = true := by rw [hI]; exact hna
  have hnr0 : ∀ j κ, j < ops.size → (I j).c.mk = some κ → ∀ i, i < ops.size → i ≠ j → ((anc ops).getD i 0).testBit j = false → NoRef κ (I i).av ∧ ((I i).pu = false → ∀ c, Blk.own c ∈ (I i).blks → ∀ (q : Nat) (h : q < c.length), NoRef κ c[q]) := by
    rw [hI]; exact hnr
  obtain ⟨hfact, rfl⟩ := facts2 (P := P) (ops := ops) (I := I) (s := s) (s' := s') ops.toList xs 0 (fun i => by simp) (fun i x h => by rw [hI]; simp [List.getD, h]) (by simp) hrun
  have hfact : ∀ i o, ops[i]? = some o → Fact2 P ops I s i o := fun i o => hfact i o (Nat.zero_le _)
  have hna : ∀ j, j < ops.size → ∀ i k, Blk.anc i k ∉ (I j).blks := by
    intro j hj i k hm
    have h0 := hna0 j hj
    obtain ⟨_, _, hh⟩ := hfact j ops[j] (Array.getElem?_eq_getElem hj)
    unfold I2.blks at hm
    unfold I2.na at h0
    rcases hh with ⟨_, e⟩ | ⟨_, h⟩
    · rw [e] at hm; simp at hm
    · unfold Loc2 at h
      split at hm
      · rename_i l hc
        rw [hc] at h
        obtain ⟨p, hp, e⟩ := List.mem_map.1 hm
        exact h.1.2 p hp i k e
      · split at h0
        · rename_i hneg _ _ hc2
          exact absurd hc2 (hneg _)
        · rw [List.mem_singleton] at hm
          exact notAnc_spec h0 i k hm.symm
  have hnr : ∀ j κ, j < ops.size → (I j).c.mk = some κ → ∀ i, i < ops.size → i ≠ j → ((anc ops).getD i 0).testBit j = false → NoRef κ (I i).av ∧ ∀ c, Blk.own c ∈ (I i).blks → ∀ (q : Nat) (h : q < c.length), NoRef κ c[q] := by
    intro j κ hj hc i hi hij hb
    obtain ⟨g1, g2⟩ := hnr0 j κ hj hc i hi hij hb
    refine ⟨g1, fun c hc' q hq => ?_⟩
    cases hpu : (I i).pu with
    | false => exact g2 hpu c hc' q hq
    | true => exact (hfact i ops[i] (Array.getElem?_eq_getElem hi)).pu hpu c hc' q hq κ
  have hfits : Fits I s ops ops.size := by
    intro k hk
    obtain ⟨_, _, hh⟩ := hfact k ops[k] (Array.getElem?_eq_getElem hk)
    rcases hh with ⟨_, e⟩ | ⟨_, h⟩
    · rw [e]; trivial
    · unfold Loc2 at h
      cases hc : (I k).c with
      | f => trivial
      | ld j => rw [hc] at h; exact h.1
      | ms l => rw [hc] at h; exact h.1.1
      | st j => rw [hc] at h; exact h.1
      | nw j => rw [hc] at h; exact h.1
      | ap i j => rw [hc] at h; exact h.1
  obtain ⟨L, hL⟩ : ∃ L, (cS ops I s ops.size).H.length = s.H.length + L := ⟨(cS ops I s ops.size).H.length - s.H.length, by
    have := cS_len_mono (ops := ops) (I := I) (s := s) (Nat.zero_le ops.size)
    simp only [cS] at this; omega⟩
  have hall := tD_all hfits hL
  have hκ0 : ∀ j κ, j < ops.size → (I j).c.mk = some κ → s.H.length ≤ κ ∧ κ < s.H.length + L := by
    intro j κ hj hc
    have h1 := hfits j hj
    have h2 := cS_len_mono (ops := ops) (I := I) (s := s) (Nat.zero_le j)
    have h3 := cS_len_mono (ops := ops) (I := I) (s := s) (show j + 1 ≤ ops.size from hj)
    simp only [cS] at h2
    cases hcc : (I j).c with
    | nw k =>
      rw [hcc] at h1 hc
      simp only [Cls.mk, Option.some.injEq] at hc
      simp only at h1
      have h4 : (cS ops I s (j + 1)).H.length = (cS ops I s j).H.length + 1 := by
        simp only [cS]; rw [St.put_H]; simp only [nxtH, hcc]; simp
      omega
    | ap q k =>
      rw [hcc] at h1 hc
      simp only [Cls.mk, Option.some.injEq] at hc
      simp only at h1
      have h4 : (cS ops I s (j + 1)).H.length = (cS ops I s j).H.length + 1 := by
        simp only [cS]; rw [St.put_H]; simp only [nxtH, hcc]; simp [hset_length]
      omega
    | f => rw [hcc] at hc; simp [Cls.mk] at hc
    | ld _ => rw [hcc] at hc; simp [Cls.mk] at hc
    | st _ => rw [hcc] at hc; simp [Cls.mk] at hc
    | ms _ => rw [hcc] at hc; simp [Cls.mk] at hc
  have hs0 : ∀ κ, s.H.length ≤ κ → (∀ t, NoRef κ (s.get t)) ∧ (∀ (j : Nat) (c : List AV), s.H[j]? = some (Blk.own c) → ∀ (i : Nat) (h : i < c.length), NoRef κ c[i]) ∧ ∀ (b i j : Nat), s.H[b]? = some (Blk.anc i j) → j ≠ κ := by
    intro κ hκ
    refine ⟨fun t => (R.slot t).noRef hκ, fun j c hc i hi => ?_, fun b i j hb e => by have := (R.mp.2.2.1 b i j hb).1; omega⟩
    rcases R.blk j c hc with ⟨b1, _⟩ | ⟨l2, cur2, e2, _, _, _, _, _, _, b7⟩
    · subst b1; simp at hi
    · exact (b7 i hi).noRef hκ
  have key : ∀ (fuel : Nat) (listed : Array Bool) (m : Map) (a : Act) (w : World), listed.size = ops.size → (List.range ops.size).countP (fun i => !listed.getD i true) = fuel →
      (∀ j o, listed.getD j false = true → ops[j]? = some o → ∀ e ∈ o.after.toList, Region.binds .any e = true → listed.getD e.on false = true) →
      Rel C m (tD ops I s L (fun i => listed.getD i false) ops.size) a.tmps w → a.defers = ds → anyR P .any ops Q fuel listed a w := by
    intro fuel
    induction fuel with
    | zero =>
      intro listed m a w hsz hcnt hcl R hd
      have hal : ∀ i, i < ops.size → listed.getD i true = true := by
        intro i hi
        have := List.countP_eq_zero.1 hcnt i (by simpa using hi)
        simpa using this
      have hal' : ∀ i, i < ops.size → listed.getD i false = true := by
        intro i hi
        have := hal i hi
        simp [Array.getD_eq_getD_getElem?, Array.getElem?_eq_getElem (show i < listed.size by omega)] at this ⊢
        exact this
      obtain ⟨a1, a2⟩ := hall ops.size (Nat.le_refl _)
      refine ⟨?_, hQ m a w (R.congr (fun t => ?_) ?_ ?_) hd⟩
      · unfold Region.ready
        rw [List.filter_eq_nil_iff]
        intro i hi
        have := hal i (by simpa using hi)
        simp [this]
      · rw [← a1]
        exact (tD_get_same _ _ t _ fun i hi _ => (hal' i hi)).symm
      · refine hget_ext (by rw [hL, tD_len]) fun b => ?_
        rw [← a2]
        exact (tD_hget_same _ _ b _ fun i hi _ => (hal' i hi)).symm
      · rw [tD_n, cS_n]
    | succ fuel ih =>
      intro listed m a w hsz hcnt hcl R hd
      refine ⟨fun hnil => ?_, fun j hj => ?_⟩
      · 
        exfalso
        have hex : ∃ i, i < ops.size ∧ listed.getD i true = false := by
          have : 0 < (List.range ops.size).countP (fun i => !listed.getD i true) := by omega
          obtain ⟨i, hi, h⟩ := List.countP_pos_iff.1 this
          exact ⟨i, by simpa using hi, by simpa using h⟩
        have hmin : ∃ i, i < ops.size ∧ listed.getD i true = false ∧ ∀ k, k < i → listed.getD k true = true := by
          obtain ⟨i, hi, h⟩ := hex
          induction i using Nat.strongRecOn with
          | _ i ihh =>
            by_cases hall : ∀ k, k < i → listed.getD k true = true
            · exact ⟨i, hi, h, hall⟩
            · simp only [Classical.not_forall] at hall
              obtain ⟨k, hk, hkn⟩ := hall
              exact ihh k hk (by omega) (by simpa using hkn)
        obtain ⟨i, hi, hli, hbelow⟩ := hmin
        have hmem : i ∈ Region.ready .any ops listed := by
          unfold Region.ready
          rw [List.mem_filter]
          refine ⟨by simpa using hi, ?_⟩
          rw [hli, Array.getElem?_eq_getElem hi]
          simp only [Bool.not_false, Bool.true_and, Option.map_some, Option.getD_some]
          rw [Array.all_eq_true_iff_forall_mem]
          intro e he
          by_cases hb : Region.binds .any e = true
          · have hlt := hedge i ops[i] (Array.getElem?_eq_getElem hi) e (by simpa using he) hb
            have := hbelow e.on hlt
            have hlt' : e.on < listed.size := by omega
            simp [Array.getD_eq_getD_getElem?, Array.getElem?_eq_getElem hlt'] at this ⊢
            simp [this]
          · simp [hb]
        rw [hnil] at hmem
        simp at hmem
      · 
        unfold Region.ready at hj
        rw [List.mem_filter] at hj
        obtain ⟨hjlt, hj⟩ := hj
        have hjlt : j < ops.size := by simpa using hjlt
        have hoj : ops[j]? = some ops[j] := Array.getElem?_eq_getElem hjlt
        generalize ops[j] = o at hoj
        rw [hoj] at hj
        simp only [Option.map_some, Option.getD_some, Bool.and_eq_true, Bool.not_eq_eq_eq_not, Bool.not_true] at hj
        obtain ⟨hnl, hal⟩ := hj
        have hjls : j < listed.size := by omega
        have hnl' : listed.getD j false = false := by
          simp [Array.getD_eq_getD_getElem?, Array.getElem?_eq_getElem hjls] at hnl ⊢
          exact hnl
        have hpre : ∀ e ∈ o.after.toList, Region.binds .any e = true → listed.getD e.on false = true := by
          intro e he hb
          have := (Array.all_eq_true_iff_forall_mem.1 hal) e (by simpa using he)
          rw [hb] at this
          simpa using this
        have hanc : ∀ i, ((anc ops).getD j 0).testBit i = true → listed.getD i false = true :=
          anc_in (D := fun i => listed.getD i false = true) hcl j j o (Nat.le_refl _) hoj hpre
        have hanc' : ∀ i, listed.getD i false = true → ∀ oi, ops[i]? = some oi → ∀ k, ((anc ops).getD i 0).testBit k = true → listed.getD k false = true :=
          fun i hi oi hoi => anc_in (D := fun i => listed.getD i false = true) hcl i i oi (Nat.le_refl _) hoi (hcl i oi hi hoi)
        have hod : opAt ops j = o := opAt_of hoj
        have low : ∀ i, i < j → apart2 ops I i j = false → listed.getD i false = true := fun i hi ha => hanc i (hconf i j hi hjlt ha)
        have high : ∀ i, j < i → i < ops.size → listed.getD i false = true → apart2 ops I j i = true := by
          intro i hi hlt hli
          have hoi : ops[i]? = some ops[i] := Array.getElem?_eq_getElem hlt
          by_cases ha : apart2 ops I j i = true
          · exact ha
          · have := hanc' i hli ops[i] hoi j (hconf j i hi hlt (by simpa using ha))
            rw [this] at hnl'; cases hnl'
        have ap1 : ∀ {i k : Nat}, apart2 ops I i k = true → (opAt ops i).apart ops (opAt ops k) = true ∧ confl (I i).c (I k).c = false := by
          intro i k h
          unfold apart2 at h
          simpa using h
        have agree : ∀ t, t ∈ o.looksAt ops → (tD ops I s L (fun i => listed.getD i false) ops.size).get t = (cS ops I s j).get t := by
          intro t ht
          rw [← (hall j (by omega)).1, tD_get_stay _ t j ops.size (by omega) (fun i h1 h2 h3 h4 => ?_)]
          · refine tD_get_same _ _ t j fun i hi hdi => ?_
            rw [low i hi ?_]
            rw [Bool.eq_false_iff]
            intro hap
            have := (ap1 hap).1
            rw [hod] at this
            exact (Oper.apart_spec this).1 t hdi ht
          · by_cases hij : i = j
            · subst hij; rw [hnl'] at h3; cases h3
            · have := (ap1 (high i (by omega) h2 h3)).1
              rw [hod] at this
              exact (Oper.apart_spec this).2.2 t h4 ht
        have agreeH : ∀ b, (I j).c.tch b = true → hget (tD ops I s L (fun i => listed.getD i false) ops.size).H b = hget (cS ops I s j).H b := by
          intro b hb
          rw [← (hall j (by omega)).2, tD_hget_stay _ b j ops.size (by omega) (fun i h1 h2 h3 => ?_)]
          · refine tD_hget_same _ _ b j fun i hi hwi => ?_
            rw [low i hi ?_]
            rw [Bool.eq_false_iff]
            intro hap
            exact (confl_spec (ap1 hap).2 b).2 ⟨hwi, hb⟩
          · by_cases hij : i = j
            · subst hij; rw [hnl'] at h3; cases h3
            · rw [Bool.eq_false_iff]
              intro hw
              exact (confl_spec (ap1 (high i (by omega) h2 h3)).2 b).1 ⟨hb, hw⟩
        have hlist : ∀ i, (listed.setIfInBounds j true).getD i false = if i = j then true else listed.getD i false := by
          intro i
          simp only [Array.getD_eq_getD_getElem?]
          by_cases hij : i = j
          · subst hij; rw [Array.getElem?_setIfInBounds_self_of_lt hjls, if_pos rfl]; rfl
          · rw [Array.getElem?_setIfInBounds_ne (Ne.symm hij), if_neg hij]
        have insertGet : ∀ t, (tD ops I s L (fun i => (listed.setIfInBounds j true).getD i false) ops.size).get t = if o.dst = some t then (I j).av else (tD ops I s L (fun i => listed.getD i false) ops.size).get t := by
          intro t
          have base : ∀ k, k ≤ j → (tD ops I s L (fun i => (listed.setIfInBounds j true).getD i false) k).get t = (tD ops I s L (fun i => listed.getD i false) k).get t := fun k hk =>
            tD_get_same _ _ t k fun i hi _ => by rw [hlist, if_neg (by omega)]
          have step : ∀ n, j + 1 ≤ n → n ≤ ops.size → (tD ops I s L (fun i => (listed.setIfInBounds j true).getD i false) n).get t = if o.dst = some t then (I j).av else (tD ops I s L (fun i => listed.getD i false) n).get t := by
            intro n hn hns
            induction n with
            | zero => omega
            | succ n ihn =>
              by_cases hnj : n = j
              · subst hnj
                rw [tD_get, tD_get, hod, base n (Nat.le_refl _), hlist, if_pos rfl, hnl']
                by_cases hdt : o.dst = some t
                · simp [hdt]
                · simp [hdt]
              · rw [tD_get, tD_get, ihn (by omega) (by omega), hlist, if_neg hnj]
                by_cases hln : listed.getD n false = true ∧ (opAt ops n).dst = some t
                · rw [if_pos hln, if_pos hln]
                  have hap := (ap1 (high n (by omega) (by omega) hln.1)).1
                  rw [hod] at hap
                  by_cases hdt : o.dst = some t
                  · exact absurd hln.2 ((Oper.apart_spec hap).2.1 t hdt)
                  · rw [if_neg hdt]
                · rw [if_neg hln, if_neg hln]
          exact step ops.size (by omega) (Nat.le_refl _)
        have insertH : ∀ b, hget (tD ops I s L (fun i => (listed.setIfInBounds j true).getD i false) ops.size).H b = if (I j).c.wrt b = true ∧ b < s.H.length + L then wv (I j) b else hget (tD ops I s L (fun i => listed.getD i false) ops.size).H b := by
          intro b
          have base : ∀ k, k ≤ j → hget (tD ops I s L (fun i => (listed.setIfInBounds j true).getD i false) k).H b = hget (tD ops I s L (fun i => listed.getD i false) k).H b := fun k hk =>
            tD_hget_same _ _ b k fun i hi _ => by rw [hlist, if_neg (by omega)]
          have step : ∀ n, j + 1 ≤ n → n ≤ ops.size → hget (tD ops I s L (fun i => (listed.setIfInBounds j true).getD i false) n).H b = if (I j).c.wrt b = true ∧ b < s.H.length + L then wv (I j) b else hget (tD ops I s L (fun i => listed.getD i false) n).H b := by
            intro n hn hns
            induction n with
            | zero => omega
            | succ n ihn =>
              by_cases hnj : n = j
              · subst hnj
                rw [tD_hget, tD_hget, base n (Nat.le_refl _), hlist, if_pos rfl, hnl']
                by_cases hdt : (I n).c.wrt b = true ∧ b < s.H.length + L
                · rw [if_pos ⟨rfl, hdt⟩, if_pos hdt]
                · rw [if_neg (fun hh => hdt hh.2), if_neg hdt, if_neg (fun hh => by cases hh.1)]
              · rw [tD_hget, tD_hget, ihn (by omega) (by omega), hlist, if_neg hnj]
                by_cases hln : listed.getD n false = true ∧ (I n).c.wrt b = true ∧ b < s.H.length + L
                · rw [if_pos hln, if_pos hln]
                  have hap := (ap1 (high n (by omega) (by omega) hln.1)).2
                  by_cases hdt : (I j).c.wrt b = true
                  · exact absurd ⟨hdt, Cls.wrt_tch hln.2.1⟩ (confl_spec hap b).2
                  · rw [if_neg (fun hh => hdt hh.1)]
                · rw [if_neg hln, if_neg hln]
          exact step ops.size (by omega) (Nat.le_refl _)
        have hcnt' : (List.range ops.size).countP (fun i => !(listed.setIfInBounds j true).getD i true) = fuel := by
          have hsplit : ∀ (l : List Nat), l.Nodup → j ∈ l → l.countP (fun i => !listed.getD i true) = l.countP (fun i => !(listed.setIfInBounds j true).getD i true) + 1 := by
            intro l
            induction l with
            | nil => intro _ h; simp at h
            | cons x r ihl =>
              intro hnd hmem
              have hx : ∀ i, i ≠ j → (listed.setIfInBounds j true).getD i true = listed.getD i true := by
                intro i hi
                simp only [Array.getD_eq_getD_getElem?]
                rw [Array.getElem?_setIfInBounds_ne (Ne.symm hi)]
              rw [List.nodup_cons] at hnd
              by_cases hxj : x = j
              · subst hxj
                have e1 : (listed.setIfInBounds x true).getD x true = true := by
                  simp only [Array.getD_eq_getD_getElem?]
                  rw [Array.getElem?_setIfInBounds_self_of_lt hjls]; rfl
                rw [List.countP_cons, List.countP_cons, hnl, e1]
                have : r.countP (fun i => !listed.getD i true) = r.countP (fun i => !(listed.setIfInBounds x true).getD i true) := by
                  apply List.countP_congr
                  intro i hi
                  rw [hx i (fun e => hnd.1 (e ▸ hi))]
                simp only [this, Bool.not_false, Bool.not_true, if_true, Bool.false_eq_true, if_false, Nat.add_zero]
              · rw [List.countP_cons, List.countP_cons, hx x hxj, ihl hnd.2 (by rcases List.mem_cons.1 hmem with h | h; exact absurd h.symm hxj; exact h)]
                omega
          have := hsplit (List.range ops.size) List.nodup_range (by simpa using hjlt)
          omega
        have hcl' : ∀ i oi, (listed.setIfInBounds j true).getD i false = true → ops[i]? = some oi → ∀ e ∈ oi.after.toList, Region.binds .any e = true → (listed.setIfInBounds j true).getD e.on false = true := by
          intro i oi hi hoi e he hb
          rw [hlist] at hi ⊢
          by_cases hij : i = j
          · subst hij
            rw [hoj] at hoi; cases hoi
            rw [hpre e he hb]; simp
          · rw [if_neg hij] at hi
            rw [hcl i oi hi hoi e he hb]; simp
        have hTlen : (tD ops I s L (fun i => listed.getD i false) ops.size).H.length = s.H.length + L := tD_len _ _
        have next : ∀ (m' : Map) (a' : Act) (w' : World), (∃ s2 : St, Rel C m' s2 a'.tmps w' ∧ (∀ t, s2.get t = if o.dst = some t then (I j).av else (tD ops I s L (fun i => listed.getD i false) ops.size).get t) ∧
              (s2.H = updC (I j) (tD ops I s L (fun i => listed.getD i false) ops.size).H) ∧ s2.n = s.n) → a'.defers = ds → anyR P .any ops Q fuel (listed.setIfInBounds j true) a' w' := by
          rintro m' a' w' ⟨s2, R2, e1, e2, e3⟩ hd'
          refine ih _ m' a' w' (by simpa using hsz) hcnt' hcl' (R2.congr (fun t => ?_) ?_ ?_) hd'
          · rw [insertGet, e1]
          · rw [e2]
            refine hget_ext (by rw [tD_len, updC_len, hTlen]) fun b => ?_
            rw [insertH, updC_hget, hTlen]
          · rw [tD_n, e3]
        have hgd : ∀ b, guardA ops (cS ops I s j) o = some b → guardA ops (tD ops I s L (fun i => listed.getD i false) ops.size) o = some b := by
          intro b h
          unfold guardA at h ⊢
          split at h
          · exact h
          · rename_i g want e
            split at h
            · rename_i d hdd
              have : (tD ops I s L (fun i => listed.getD i false) ops.size).get d = (cS ops I s j).get d := agree d (by
                unfold Oper.looksAt
                rw [e]
                simp [hdd])
              rw [this]
              exact h
            · cases h
        have hsn : (tD ops I s L (fun i => listed.getD i false) ops.size).n = s.n := tD_n _ _
        obtain ⟨_, fd, fh⟩ := hfact j o hoj
        unfold onR
        rw [hoj]
        simp only
        rcases fh with ⟨hg, hIj⟩ | ⟨hg, hloc⟩
        · rw [guardA_wanted (P := P) R (hgd _ hg)]
          simp only [Bool.false_eq_true, if_false]
          refine next m _ w ⟨_, R.put (fun t ht => by rw [hsn]; exact fd t ht) (.p _ _ reads_un), fun t => ?_, ?_, ?_⟩ (by rw [put_defers]; exact hd)
          · rw [get_put, hIj]
          · rw [St.put_H, hIj]; rfl
          · rw [St.put_n, hsn]
        · rw [guardA_wanted (P := P) R (hgd _ hg)]
          simp only [if_true]
          left
          have hag : Agree o (cS ops I s j) (tD ops I s L (fun i => listed.getD i false) ops.size) := by
            intro x hx
            cases x with
            | tmp t =>
              simp only [St.ev]
              refine agree t ?_
              unfold Oper.looksAt
              rw [List.mem_append]
              left
              rw [List.mem_filterMap]
              exact ⟨.tmp t, by simpa using hx, rfl⟩
            | _ => rfl
          have hn2 : (tD ops I s L (fun i => listed.getD i false) ops.size).n = (cS ops I s j).n := by rw [tD_n, cS_n]
          have fin : DoesW P o (tD ops I s L (fun i => listed.getD i false) ops.size) (I j).av (updC (I j) (tD ops I s L (fun i => listed.getD i false) ops.size).H) →
              opR P o a w (anyR P .any ops Q fuel (listed.setIfInBounds j true)) Q := by
            intro hdo
            refine hdo C m a w _ Q R fun v m' w' R' hv => ?_
            refine next m' _ w' ⟨_, R'.put (fun t ht => by simp only; rw [hsn]; exact fd t ht) hv, fun t => ?_, ?_, ?_⟩ (by rw [put_defers]; exact hd)
            · rw [get_put]; rfl
            · rw [St.put_H]
            · rw [St.put_n]; exact hsn
          have fresh : ∀ k, (I j).c.mk = some k → (I j).c.tch k = true → (cS ops I s j).H.length = k → (tD ops I s L (fun i => listed.getD i false) ops.size).H[k]? = some .dead ∧ (∀ t, NoRef k ((tD ops I s L (fun i => listed.getD i false) ops.size).get t)) ∧ (∀ (b : Nat) (c : List AV), (tD ops I s L (fun i => listed.getD i false) ops.size).H[b]? = some (Blk.own c) → ∀ (q : Nat) (h : q < c.length), NoRef k c[q]) ∧ ∀ (b i j' : Nat), (tD ops I s L (fun i => listed.getD i false) ops.size).H[b]? = some (Blk.anc i j') → j' ≠ k := by
            intro k hc htch hlk
            obtain ⟨k1, k2⟩ := hκ0 j k hjlt hc
            have hD : ∀ i, i < ops.size → listed.getD i false = true → i ≠ j ∧ ((anc ops).getD i 0).testBit j = false := by
              intro i hi hli
              refine ⟨fun e => by (subst e; rw [hnl'] at hli; cases hli), ?_⟩
              rw [Bool.eq_false_iff]
              intro hb
              have := hanc' i hli ops[i] (Array.getElem?_eq_getElem hi) j hb
              rw [this] at hnl'; cases hnl'
            have hno : ∀ n, n ≤ ops.size → (∀ t, NoRef k ((tD ops I s L (fun i => listed.getD i false) n).get t)) ∧ (∀ (b : Nat) (c : List AV), hget (tD ops I s L (fun i => listed.getD i false) n).H b = Blk.own c → ∀ (q : Nat) (h : q < c.length), NoRef k c[q]) ∧ ∀ (b i j' : Nat), hget (tD ops I s L (fun i => listed.getD i false) n).H b = Blk.anc i j' → j' ≠ k := by
              intro n
              induction n with
              | zero =>
                intro _
                refine ⟨(hs0 k k1).1, fun b c hb => ?_, fun b i j' hb => ?_⟩
                · simp only [tD] at hb
                  by_cases hlt : b < s.H.length
                  · rw [hget_app1 hlt] at hb
                    exact (hs0 k k1).2.1 b c (hget_mut hb)
                  · rw [hget_app2 (by omega), hget_rep] at hb
                    cases hb
                · simp only [tD] at hb
                  by_cases hlt : b < s.H.length
                  · rw [hget_app1 hlt] at hb
                    exact (hs0 k k1).2.2 b i j' (hget_some hb (by simp))
                  · rw [hget_app2 (by omega), hget_rep] at hb
                    cases hb
              | succ n ihn =>
                intro hn
                obtain ⟨i1, i2, i3⟩ := ihn (by omega)
                refine ⟨fun t => ?_, fun b c hb => ?_, fun b i j' hb => ?_⟩
                · rw [tD_get]
                  by_cases hh : listed.getD n false = true ∧ (opAt ops n).dst = some t
                  · rw [if_pos hh]
                    obtain ⟨d1, d2⟩ := hD n (by omega) hh.1
                    exact (hnr j k hjlt hc n (by omega) d1 d2).1
                  · rw [if_neg hh]; exact i1 t
                · rw [tD_hget] at hb
                  by_cases hh : listed.getD n false = true ∧ (I n).c.wrt b = true ∧ b < s.H.length + L
                  · rw [if_pos hh] at hb
                    obtain ⟨d1, d2⟩ := hD n (by omega) hh.1
                    refine (hnr j k hjlt hc n (by omega) d1 d2).2 c ?_
                    rcases wv_blks (I n) b with h1 | h1
                    · rw [hb] at h1; cases h1
                    · rw [hb] at h1; exact h1
                  · rw [if_neg hh] at hb; exact i2 b c hb
                · rw [tD_hget] at hb
                  by_cases hh : listed.getD n false = true ∧ (I n).c.wrt b = true ∧ b < s.H.length + L
                  · rw [if_pos hh] at hb
                    rcases wv_blks (I n) b with h1 | h1
                    · rw [hb] at h1; cases h1
                    · rw [hb] at h1; exact absurd h1 (hna n (by omega) i j')
                  · rw [if_neg hh] at hb; exact i3 b i j' hb
            obtain ⟨n1, n2, n3⟩ := hno ops.size (Nat.le_refl _)
            have hkl : k < (tD ops I s L (fun i => listed.getD i false) ops.size).H.length := by rw [hTlen]; exact k2
            have hdead : hget (tD ops I s L (fun i => listed.getD i false) ops.size).H k = .dead := by
              rw [agreeH k htch]
              exact hget_out (by omega)
            exact ⟨get_of_hget hkl hdead, n1, fun b c hb => n2 b c (hget_of_get hb), fun b i j' hb => n3 b i j' (hget_of_get hb)⟩
          apply fin
          unfold Loc2 at hloc
          unfold updC
          cases hc : (I j).c with
          | f => rw [hc] at hloc; exact hloc _ hn2 hag
          | ld k => rw [hc] at hloc; exact hloc.2 _ hn2 hag (agreeH k (by rw [hc]; simp [Cls.tch]))
          | st k => rw [hc] at hloc; exact hloc.2 _ hn2 hag (agreeH k (by rw [hc]; simp [Cls.tch]))
          | ms l => rw [hc] at hloc; exact hloc.2 _ hn2 hag fun p hp => ⟨by have h1 := hloc.1.1 p hp; have h2 := cS_len_mono (ops := ops) (I := I) (s := s) (show j ≤ ops.size by omega); rw [hTlen]; omega, agreeH p.1 (by rw [hc]; simp only [Cls.tch]; exact List.any_eq_true.2 ⟨p, hp, by simp⟩)⟩
          | nw k =>
            rw [hc] at hloc
            obtain ⟨a1, a2, a3, a4⟩ := fresh k (by rw [hc]; rfl) (by rw [hc]; simp [Cls.tch]) hloc.1.symm
            exact hloc.2 _ hn2 hag a1 a2 a3 a4
          | ap q k =>
            rw [hc] at hloc
            obtain ⟨a1, a2, a3, a4⟩ := fresh k (by rw [hc]; rfl) (by rw [hc]; simp [Cls.tch]) hloc.1.2.symm
            exact hloc.2 _ hn2 hag (agreeH q (by rw [hc]; simp [Cls.tch])) a1 a2 a3 a4
  refine key ops.size (Array.replicate ops.size false) m a w (by simp) ?_ ?_ ?_ hd
  · have : ∀ i ∈ List.range ops.size, (!(Array.replicate ops.size false).getD i true) = true := by
      intro i hi
      have hi : i < ops.size := by simpa using hi
      simp [Array.getD_eq_getD_getElem?, hi]
    rw [List.countP_eq_length.2 this]
    simp
  · intro j o hj
    exfalso
    simp only [Array.getD_eq_getD_getElem?, Array.getElem?_replicate] at hj
    split at hj <;> simp at hj
  · refine (R.pad L).congr (fun t => ?_) ?_ (tD_n _ _)
    · refine tD_get_stay _ t 0 ops.size (Nat.zero_le _) fun i _ hi h => ?_
      simp only [Array.getD_eq_getD_getElem?, Array.getElem?_replicate] at h
      split at h <;> simp at h
    · refine hget_ext (by rw [tD_len]; simp) fun b => ?_
      refine tD_hget_stay _ b 0 ops.size (Nat.zero_le _) fun i _ hi h => ?_
      simp only [Array.getD_eq_getD_getElem?, Array.getElem?_replicate] at h
      split at h <;> simp at h
end
section
variable {P : Program} {T : TypeId → Option TI}
def allIsP : List AV → Bool
  | [] => true
  | .p _ :: r => allIsP r
  | _ => false
theorem capsA_pure (H H2 : Heap) : ∀ l : List AV, allIsP l = true → capsA H2 l = capsA H l
  | [], _ => rfl
  | x :: r, h => by
    cases x with
    | p v =>
      have ih := capsA_pure H H2 r h
      simp only [capsA, capA, ih]
    | _ => simp [allIsP] at h
def clsA (s : St) : Op → Option Cls
  | .load _ x => match s.ev x with | .ptr k _ => some (.ld k) | .p (.ptr _) => some .f | _ => none
  | .store _ x _ => match s.ev x with | .ptr k _ => some (.st k) | _ => none
  | .alloc _ => some (.nw s.H.length)
  | .call { callee := .builtin .append, args, .. } => match args.toList.map s.ev with | [.sl k _ _, .p _] => some (.ap k s.H.length) | _ => none
  | .lookup _ x _ _ => match s.ev x with | .mptr k => some (.ld k) | _ => none
  | .makeFunc _ _ caps => bif allIsP (caps.toList.map s.ev) then some .f else none
  | op => bif isT op then none else some .f
def blkOf (c : Cls) (H : Heap) : Blk :=
  match c with
  | .st k => hget H k
  | .nw k => hget H k
  | .ap _ k => hget H k
  | _ => .dead
theorem cv_noRef (κ : Nat) (v : Value) : NoRef κ (cv v) := by
  unfold cv; split <;> constructor
theorem appendA_own {ti : TI} {H : Heap} {k lo len : Nat} {v : PV} {r : OV} (h : appendA T ti H (.sl k lo len) (.p v) = some r) :
    ∃ (cc : List AV) (xs : List PV) (V : Prop), hget H k = .own cc ∧ ∀ H2 : Heap, hget H2 k = .own cc → appendA T ti H2 (.sl k lo len) (.p v) = some ⟨V, .sl H2.length 0 (len + xs.length), hset H2 k .dead ++ [.own ((cc.drop lo).take len ++ xs.map .p)]⟩ := by
  unfold appendA at h ⊢
  cases hk : ti.kind with
  | slice e =>
    rw [hk] at h
    simp only at h ⊢
    cases hte : T e with
    | none => rw [hte] at h; cases h
    | some te =>
      rw [hte] at h
      simp only at h ⊢
      cases hg : hget H k with
      | dead => rw [hg] at h; cases v <;> simp [elemsA] at h
      | mp _ _ _ => rw [hg] at h; cases v <;> simp [elemsA] at h
      | anc _ _ => rw [hg] at h; cases v <;> simp [elemsA] at h
      | lp _ => rw [hg] at h; cases v <;> simp [elemsA] at h
      | fro d => rw [hg] at h; cases v <;> simp [elemsA] at h
      | own cc =>
        cases v with
        | list l => exact ⟨cc, l, _, rfl, fun H2 h2 => by simp only [elemsA, h2, List.length_map]; rfl⟩
        | nn l => exact ⟨cc, l, _, rfl, fun H2 h2 => by simp only [elemsA, h2, List.length_map]; rfl⟩
        | nil => exact ⟨cc, [], _, rfl, fun H2 h2 => by simp only [elemsA, h2, List.length_nil, List.map_nil]; rfl⟩
        | _ => rw [hg] at h; simp [elemsA] at h
  | _ => rw [hk] at h; cases h
theorem lookupA_loc {ti : TI} {ok : Bool} {H : Heap} {k : Nat} {y : AV} {r : OV} (h : lookupA T ti ok H (.mptr k) y = some r) : k < H.length ∧ ∀ H2 : Heap, hget H2 k = hget H k → lookupA T ti ok H2 (.mptr k) y = some { r with H := H2 } := by
  unfold lookupA at h ⊢
  split at h
  · split at h
    · simp only at h
      split at h
      · rename_i kk d v zp hg hz
        simp only [Option.some.injEq] at h
        subst h
        refine ⟨(List.getElem?_eq_some_iff.1 (hget_some hg (by simp))).1, fun H2 h2 => ?_⟩
        simp_all
      · cases h
    · cases h
  · cases h
theorem opA_loc2 (hT : ∀ t ti, T t = some ti → tiOf P t = some ti) {o : Oper} {s : St} {r : OV} {c : Cls} (hc : clsA s o.op = some c) (h : opA T s o.op = some r) (hvc : r.vc) :
    Loc2 P o s ⟨c, r.av, blkOf c r.H, false⟩ ∧ r.H = nxtH ⟨c, r.av, blkOf c r.H, false⟩ s.H := by
  have free : isT o.op = false → c = .f → Loc2 P o s ⟨c, r.av, blkOf c r.H, false⟩ ∧ r.H = nxtH ⟨c, r.av, blkOf c r.H, false⟩ s.H := by
    rintro hf rfl
    refine ⟨?_, (opA_free hf h).1⟩
    intro s2 hn ha
    have h1 := (opA_free hf h).2 s2.H
    have := opA_congr (T := T) (s := { s with H := s2.H }) (s2 := s2) (op := o.op) (fun x hx => by rw [ha x hx]; cases x <;> rfl) rfl
    rw [h1] at this
    exact (opA_does hT this hvc).wp
  generalize hop : o.op = op at *
  cases op with
  | makeFunc fn first caps =>
    simp only [clsA] at hc
    cases hp : allIsP (caps.toList.map s.ev) with
    | false => rw [hp] at hc; cases hc
    | true =>
      rw [hp] at hc
      simp only [cond_true, Option.some.injEq] at hc
      subst hc
      have hr : r.H = s.H := by
        cases fn with
        | func f =>
          simp only [opA] at h
          cases hf : first.isEmpty <;> rw [hf] at h
          · cases h
          · exact makeFuncA_H h
        | _ => simp [opA] at h
      refine ⟨?_, hr⟩
      intro s2 hn ha
      have h2 : opA T s2 o.op = some { r with H := s2.H } := by
        rw [hop]
        have hm : caps.toList.map s2.ev = caps.toList.map s.ev := List.map_congr_left fun x hx => ha x (by rw [hop]; simp only [Op.operands]; simp; right; simpa using hx)
        cases fn with
        | func f =>
          simp only [opA] at h ⊢
          cases hf : first.isEmpty <;> rw [hf] at h
          · cases h
          · simp only [cond_true] at h ⊢
            rw [hm]
            unfold makeFuncA at h ⊢
            rw [capsA_pure s.H s2.H _ hp]
            cases hcp : capsA s.H (caps.toList.map s.ev) with
            | none => rw [hcp] at h; cases h
            | some x => rw [hcp] at h; obtain ⟨p1, l1⟩ := x; simp only [Option.some.injEq] at h ⊢; subst h; rfl
        | _ => simp [opA] at h
      exact (opA_does hT h2 hvc).wp
  | lookup t x y ok =>
    simp only [clsA] at hc
    simp only [opA] at h
    cases hti : T t with
    | none => rw [hti] at h; cases h
    | some ti =>
      rw [hti] at h
      simp only at h
      have hx : ∀ s2 : St, Agree o s s2 → s2.ev x = s.ev x := fun s2 ha => ha x (by rw [hop]; simp [Op.operands])
      have hy : ∀ s2 : St, Agree o s s2 → s2.ev y = s.ev y := fun s2 ha => ha y (by rw [hop]; simp [Op.operands])
      cases hev : s.ev x with
      | mptr k =>
        rw [hev] at hc h
        simp only [Option.some.injEq] at hc
        subst hc
        obtain ⟨hkl, hloc⟩ := lookupA_loc h
        refine ⟨⟨hkl, fun s2 hn ha hH => ?_⟩, lookupA_H h⟩
        have h2 : opA T s2 o.op = some { r with H := s2.H } := by
          rw [hop]
          simp only [opA, hti, hx s2 ha, hy s2 ha, hev]
          exact hloc s2.H hH
        exact (opA_does hT h2 hvc).wp
      | _ => rw [hev] at hc; cases hc
  | load t x =>
    simp only [clsA] at hc
    simp only [opA] at h
    cases hti : T t with
    | none => rw [hti] at h; cases h
    | some ti =>
      rw [hti] at h
      simp only at h
      have hx : ∀ s2 : St, Agree o s s2 → s2.ev x = s.ev x := fun s2 ha => ha x (by rw [hop]; simp [Op.operands])
      cases hev : s.ev x with
      | ptr k i =>
        rw [hev] at hc h
        simp only [Option.some.injEq] at hc
        subst hc
        have hkl : k < s.H.length := by
          simp only [loadA] at h
          cases hg : hget s.H k with
          | dead => rw [hg] at h; cases h
          | mp _ _ _ => rw [hg] at h; cases h
          | anc _ _ => rw [hg] at h; cases h
          | lp _ => rw [hg] at h; cases h
          | own d => exact (List.getElem?_eq_some_iff.1 (hget_mut hg)).1
          | fro d => exact (List.getElem?_eq_some_iff.1 (hget_fro hg)).1
        refine ⟨⟨hkl, fun s2 hn ha hH => ?_⟩, loadA_H h⟩
        have h2 : opA T s2 o.op = some { r with H := s2.H } := by
          rw [hop]
          simp only [opA, hti, hx s2 ha, hev]
          simp only [loadA] at h ⊢
          rw [hH]
          cases hg : hget s.H k with
          | dead => rw [hg] at h; cases h
          | mp _ _ _ => rw [hg] at h; cases h
          | anc _ _ => rw [hg] at h; cases h
          | lp _ => rw [hg] at h; cases h
          | own d => rw [hg] at h; cases hr : isRow ti.kind <;> rw [hr] at h <;> simp only [cond_true, cond_false, Option.some.injEq] at h ⊢ <;> subst h <;> rfl
          | fro d => rw [hg] at h; cases hr : isRow ti.kind <;> rw [hr] at h <;> simp only [cond_true, cond_false, Option.some.injEq] at h ⊢ <;> subst h <;> rfl
        exact (opA_does hT h2 hvc).wp
      | p v =>
        rw [hev] at hc h
        cases v with
        | ptr d =>
          simp only [Option.some.injEq] at hc
          subst hc
          refine ⟨?_, loadA_H h⟩
          intro s2 hn ha
          have h2 : opA T s2 o.op = some { r with H := s2.H } := by
            rw [hop]
            simp only [opA, hti, hx s2 ha, hev]
            simp only [loadA] at h ⊢
            cases hr : isRow ti.kind <;> rw [hr] at h <;> simp only [cond_true, cond_false, Option.some.injEq] at h ⊢ <;> subst h <;> rfl
          exact (opA_does hT h2 hvc).wp
        | _ => cases hc
      | _ => rw [hev] at hc; cases hc
  | store t x v =>
    simp only [clsA] at hc
    simp only [opA] at h
    cases hti : T t with
    | none => rw [hti] at h; cases h
    | some ti =>
      rw [hti] at h
      simp only at h
      have hx : ∀ s2 : St, Agree o s s2 → s2.ev x = s.ev x := fun s2 ha => ha x (by rw [hop]; simp [Op.operands])
      have hv : ∀ s2 : St, Agree o s s2 → s2.ev v = s.ev v := fun s2 ha => ha v (by rw [hop]; simp [Op.operands])
      cases hev : s.ev x with
      | ptr k i =>
        rw [hev] at hc h
        simp only [Option.some.injEq] at hc
        subst hc
        simp only [storeA] at h
        cases hg : hget s.H k with
        | dead => rw [hg] at h; cases h
        | mp _ _ _ => rw [hg] at h; cases h
        | anc _ _ => rw [hg] at h; cases h
        | lp _ => rw [hg] at h; cases h
        | fro d => rw [hg] at h; cases h
        | own d =>
          rw [hg] at h
          simp only [Option.some.injEq] at h
          have hkl : k < s.H.length := (List.getElem?_eq_some_iff.1 (hget_mut hg)).1
          have hb : hget r.H k = .own (setC d i (s.ev v).cells) := by
            rw [← h]; simp only; rw [hget_hset_same _ _ _ hkl]
          refine ⟨⟨hkl, fun s2 hn ha hH => ?_⟩, ?_⟩
          · have h2 : opA T s2 o.op = some { r with H := hset s2.H k (.own (setC d i (s.ev v).cells)) } := by
              rw [hop]
              simp only [opA, hti, hx s2 ha, hv s2 ha, hev, storeA, hH, hg]
              rw [← h]
            simp only [blkOf]
            rw [hb]
            exact (opA_does hT h2 hvc).wp
          · simp only [nxtH, blkOf]
            rw [hb, ← h]
      | p v => rw [hev] at hc; cases hc
      | dead => rw [hev] at hc; cases hc
      | sl _ _ _ => rw [hev] at hc; cases hc
      | agg _ => rw [hev] at hc; cases hc
      | tup _ => rw [hev] at hc; cases hc
      | cl _ _ => rw [hev] at hc; cases hc
      | itv _ => rw [hev] at hc; cases hc
      | sls _ _ _ _ => rw [hev] at hc; cases hc
      | mptr _ => rw [hev] at hc; cases hc
      | yv _ _ _ => rw [hev] at hc; cases hc
  | alloc t =>
    simp only [clsA, Option.some.injEq] at hc
    subst hc
    simp only [opA] at h
    cases hti : T t with
    | none => rw [hti] at h; cases h
    | some ti =>
      rw [hti] at h
      simp only [Option.some.injEq] at h
      have hb : hget r.H s.H.length = .own (ti.zero.map cv) := by
        rw [← h]; simp only [allocA]; rw [hget_app2 (Nat.le_refl _), Nat.sub_self]; rfl
      refine ⟨⟨rfl, fun s2 hn ha hd n1 n2 n3 => ?_⟩, ?_⟩
      · simp only [blkOf]
        rw [hb]
        have hav : r.av = .ptr s.H.length 0 := by rw [← h]; rfl
        rw [hav]
        have hvc' : (allocA ti s2.H).vc := by
          have : (allocA ti s.H).vc := by rw [h]; exact hvc
          exact this
        refine Does.wp fun C m a w R => ?_
        obtain ⟨v, w', m', hy, R', hv⟩ := allocA_does hT R (o := o) hop hti hvc'
        obtain ⟨g1, g2, _⟩ := Rel.move R (b := .own (ti.zero.map cv)) R' hd n3 (fun _ _ h => by cases h) n1 n2 fun c hc i hi => by
          cases hc
          rw [List.getElem_map]
          exact ⟨cv_noRef _ _, cv_noRef _ _⟩
        exact ⟨v, w', _, hy, g1, g2 0 v hv⟩
      · simp only [nxtH, blkOf]
        rw [hb, ← h]; rfl
  | call c' =>
    obtain ⟨callee, args, ts⟩ := c'
    have other : clsA s (.call ⟨callee, args, ts⟩) = (bif isT (.call ⟨callee, args, ts⟩) then none else some .f) → Loc2 P o s ⟨c, r.av, blkOf c r.H, false⟩ ∧ r.H = nxtH ⟨c, r.av, blkOf c r.H, false⟩ s.H := by
      intro e
      rw [e] at hc
      cases hf : isT (.call ⟨callee, args, ts⟩) with
      | true => rw [hf] at hc; cases hc
      | false => rw [hf] at hc; exact free hf (by simpa using hc.symm)
    cases callee with
    | builtin b =>
      cases b with
      | append =>
        simp only [clsA] at hc
        split at hc <;> simp only [Option.some.injEq, reduceCtorEq] at hc
        rename_i k lo len v hl
        subst hc
        have hev : ∀ s2 : St, Agree o s s2 → args.toList.map s2.ev = [.sl k lo len, .p v] := by
          intro s2 ha
          rw [← hl]
          exact List.map_congr_left fun x hx => ha x (by rw [hop]; simp [Op.operands, Call.operands]; simpa using hx)
        simp only [opA] at h
        rw [hl] at h
        obtain ⟨t, ti, hts, hti, h⟩ : ∃ t ti, ts.toList = [t, t] ∧ T t = some ti ∧ appendA T ti s.H (.sl k lo len) (.p v) = some r := by
          unfold builtinA at h
          split at h <;> simp only [reduceCtorEq] at *
          rename_i a1 a2 sv xv t t' ea e2 e3
          simp only [List.cons.injEq, and_true] at ea
          obtain ⟨rfl, rfl⟩ := ea
          cases hti : T t with
          | none => rw [hti] at h; cases h
          | some ti =>
            rw [hti] at h
            simp only at h
            by_cases ht : t = t'
            · rw [if_pos ht] at h; subst ht; exact ⟨t, ti, e2, hti, h⟩
            · rw [if_neg ht] at h; cases h
        obtain ⟨cc, xs, V, hg, hall⟩ := appendA_own h
        have hr : r = ⟨V, .sl s.H.length 0 (len + xs.length), hset s.H k .dead ++ [.own ((cc.drop lo).take len ++ xs.map .p)]⟩ := by
          have := hall s.H hg
          rw [h] at this
          exact Option.some.inj this
        have hkl : k < s.H.length := (List.getElem?_eq_some_iff.1 (hget_mut hg)).1
        have hb : hget r.H s.H.length = .own ((cc.drop lo).take len ++ xs.map .p) := by
          rw [hr]; simp only; rw [hget_app2 (by rw [hset_length]; exact Nat.le_refl _), hset_length, Nat.sub_self]; rfl
        have hV : V := by rw [hr] at hvc; exact hvc
        refine ⟨⟨⟨hkl, rfl⟩, fun s2 hn ha hH hd n1 n2 n3 => ?_⟩, ?_⟩
        · simp only [blkOf]
          rw [hb, hr]
          rw [hg] at hH
          have h2 : opA T s2 o.op = some ⟨V, .sl s2.H.length 0 (len + xs.length), hset s2.H k .dead ++ [.own ((cc.drop lo).take len ++ xs.map .p)]⟩ := by
            rw [hop]
            simp only [opA]
            rw [hev s2 ha, hts]
            simp only [builtinA, hti, if_true]
            exact hall s2.H hH
          have hkne : k ≠ s.H.length := by omega
          have hdd : (hset s2.H k .dead)[s.H.length]? = some .dead := by
            rw [hset_get, if_neg (fun hh => hkne hh.1.symm)]; exact hd
          refine Does.wp fun C m a w R => ?_
          obtain ⟨v', w', m', hy, R', hv⟩ := opA_does hT h2 hV C m a w R
          have hlen : (hset s2.H k .dead).length = s2.H.length := hset_length _ _ _
          have hown : ∀ (j : Nat) (c : List AV), (hset s2.H k .dead)[j]? = some (Blk.own c) → s2.H[j]? = some (Blk.own c) := by
            intro j c hj
            rw [hset_get] at hj
            by_cases e : j = k ∧ k < s2.H.length
            · rw [if_pos e] at hj; cases hj
            · rw [if_neg e] at hj; exact hj
          obtain ⟨g1, _, g2⟩ := Rel.move (s := { s2 with H := hset s2.H k .dead }) (R.kill k) (b := .own ((cc.drop lo).take len ++ xs.map .p)) R' hdd (fun b i j hj => n3 b i j (by rw [hset_get] at hj; by_cases e : b = k ∧ k < s2.H.length; (rw [if_pos e] at hj; cases hj); (rw [if_neg e] at hj; exact hj))) (fun _ _ h => by cases h) n1 (fun j c hj => n2 j c (hown j c hj)) fun c hc i hi => by
            cases hc
            have hcc := hget_mut hH
            by_cases hlt : i < ((cc.drop lo).take len).length
            · rw [List.getElem_append_left hlt]
              simp only [List.getElem_take, List.getElem_drop]
              have hi2 : lo + i < cc.length := by
                simp only [List.length_take, List.length_drop] at hlt; omega
              refine ⟨n2 k cc hcc _ hi2, ?_⟩
              simp only [hlen]
              rcases R.blk k cc hcc with ⟨b1, _⟩ | ⟨l2, cur2, e2, _, _, _, _, _, _, b7⟩
              · subst b1; simp at hi2
              · exact (b7 _ hi2).noRef (Nat.le_refl _)
            · rw [List.getElem_append_right (by omega), List.getElem_map]
              exact ⟨.p _, .p _⟩
          simp only [hlen] at g1 g2 hv
          exact ⟨v', w', _, hy, g1, g2 _ _ v' hv⟩
        · simp only [nxtH, blkOf]
          rw [hb, hr]
      | _ => exact other rfl
    | _ => exact other rfl
  | _ => simp only [clsA] at hc; first | (simp only [isT, cond_true, cond_false, Option.some.injEq, reduceCtorEq] at hc; done) | exact free rfl (by simpa [isT] using hc.symm)
inductive X2 where
  | run (vc : Prop) (s : St) (acc : List I2)
  | stop (vc : Prop) (rest : List Oper) (s : St) (acc : List I2)
def xstep2 (T : TypeId → Option TI) (all : Array Oper) (o : Oper) (rest : List Oper) (vc : Prop) (s : St) (acc : List I2) : X2 :=
  match guardA all s o with
  | some true =>
    match clsA s o.op, opA T s o.op with
    | some c, some r => .run (vc ∧ dstOk s o.dst ∧ r.vc) (after o s r) (acc ++ [⟨c, r.av, blkOf c r.H, false⟩])
    | _, _ => .stop vc (o :: rest) s acc
  | some false => .run (vc ∧ dstOk s o.dst) (s.put o.dst (.p (.tup []))) (acc ++ [⟨.f, .p (.tup []), .dead, false⟩])
  | none => .stop vc (o :: rest) s acc
def aops2 (T : TypeId → Option TI) (all : Array Oper) : List Oper → X2 → X2
  | [], x => x
  | o :: r, .run vc s acc => aops2 T all r (xstep2 T all o r vc s acc)
  | _ :: _, .stop vc rest s acc => .stop vc rest s acc
def Runs2 (P : Program) (all : Array Oper) (rest : List Oper) (K : St → List I2 → Prop) (s : St) (acc : List I2) : Prop := ∃ s' xs, Run2 P all rest xs s s' ∧ K s' (acc ++ xs)
def fin2 (P : Program) (all : Array Oper) (K : St → List I2 → Prop) : X2 → Prop
  | .run vc s acc => vc ∧ K s acc
  | .stop vc rest s acc => vc ∧ Runs2 P all rest K s acc
theorem aops2_stop (all : Array Oper) (l : List Oper) (vc : Prop) (rest : List Oper) (s : St) (acc : List I2) : aops2 T all l (.stop vc rest s acc) = .stop vc rest s acc := by cases l <;> rfl
theorem aops2_sound (hT : ∀ t ti, T t = some ti → tiOf P t = some ti) {all : Array Oper} {K : St → List I2 → Prop} : ∀ (ops : List Oper) (vc : Prop) (s : St) (acc : List I2), fin2 P all K (aops2 T all ops (.run vc s acc)) → vc ∧ Runs2 P all ops K s acc
  | [], vc, s, acc, h => ⟨h.1, s, [], .nil s, by rw [List.append_nil]; exact h.2⟩
  | o :: r, vc, s, acc, h => by
    simp only [aops2, xstep2] at h
    split at h
    · rename_i hg
      split at h
      · rename_i c ov hcl hov
        obtain ⟨⟨h1, h2, h3⟩, s', xs, hr, hK⟩ := aops2_sound hT r _ _ _ h
        obtain ⟨g1, g2⟩ := opA_loc2 hT hcl hov h3
        refine ⟨h1, s', _ :: xs, .op hg (dstOk_spec h2) g1 (fun h => by cases h) ?_, by rw [List.append_assoc] at hK; exact hK⟩
        rw [← g2]
        exact hr
      · rw [aops2_stop] at h; exact h
    · rename_i hg
      obtain ⟨⟨h1, h2⟩, s', xs, hr, hK⟩ := aops2_sound hT r _ _ _ h
      exact ⟨h1, s', _ :: xs, .skip hg (dstOk_spec h2) hr, by rw [List.append_assoc] at hK; exact hK⟩
    · rw [aops2_stop] at h; exact h
theorem runs2_eval (hT : ∀ t ti, T t = some ti → tiOf P t = some ti) {all : Array Oper} {rest : List Oper} {K : St → List I2 → Prop} {s : St} {acc : List I2} (h : fin2 P all K (aops2 T all rest (.run True s acc))) : Runs2 P all rest K s acc :=
  (aops2_sound hT rest True s acc h).2
def isP : AV → Bool
  | .p _ => true
  | _ => false
theorem runs2_call {all : Array Oper} {rest : List Oper} {K : St → List I2 → Prop} {acc : List I2} {s : St} {dst : Option Tmp} {ty : TypeId} {pos : String} {aft : Array Edge} {gd : Option (Nat × Bool)} {fo : Operand} {args : Array Operand} {ts : Array TypeId} {g : FuncId} {avs : List PV} {p : Prop} {b : Bool} {r : PV}
    (hc : FnC P g avs r) (hg : guardA all s { dst := dst, op := .call { callee := .value fo, args := args, argTypes := ts }, type := ty, pos := pos, after := aft, guard := gd } = some true)
    (hcall : callA s fo args = some (g, avs, p, b)) (hb : (b || r.flatOnly) = true) (hpure : args.toList.all (fun x => isP (s.ev x)) = true) (hd : dstOk s dst) (hp : p) (h : Runs2 P all rest K (s.put dst (.p r)) (acc ++ [⟨.f, .p r, .dead, false⟩])) :
    Runs2 P all ({ dst := dst, op := .call { callee := .value fo, args := args, argTypes := ts }, type := ty, pos := pos, after := aft, guard := gd } :: rest) K s acc := by
  obtain ⟨s', xs, hr, hK⟩ := h
  refine ⟨s', ⟨.f, .p r, .dead, false⟩ :: xs, .op hg (dstOk_spec hd) ?_ (fun h => by cases h) hr, by rw [List.append_assoc] at hK; exact hK⟩
  intro s2 hn ha
  have ha' : ∀ x ∈ (Op.call { callee := .value fo, args := args, argTypes := ts }).operands, s2.ev x = s.ev x := ha
  simp only [Op.operands, Call.operands] at ha'
  have h1 : s2.ev fo = s.ev fo := ha' fo (by simp)
  have h2 : args.toList.map s2.ev = args.toList.map s.ev := List.map_congr_left fun x hx => ha' x (by simp; right; simpa using hx)
  have h3 : ∀ l : List AV, l.all isP = true → peekList (peekG s2.H) l = peekList (peekG s.H) l := by
    intro l
    induction l with
    | nil => intro _; rfl
    | cons x l ih =>
      intro hl
      simp only [List.all_cons, Bool.and_eq_true] at hl
      simp only [peekList]
      rw [ih hl.2]
      cases x with
      | p v => rfl
      | _ => simp [isP] at hl
  have : callA s2 fo args = some (g, avs, p, b) := by
    rw [← hcall]
    unfold callA
    rw [h1, h2, h3 _ (by rw [List.all_map]; exact hpure)]
  exact call_does rfl hc this hp hb
theorem callA_pure {s s2 : St} {fo : Operand} {args : Array Operand} (ts : Array TypeId) (ha : ∀ x ∈ (Op.call { callee := .value fo, args := args, argTypes := ts }).operands, s2.ev x = s.ev x) (h : ∀ x ∈ args.toList, peekG s2.H (s.ev x) = peekG s.H (s.ev x)) : callA s2 fo args = callA s fo args := by
  simp only [Op.operands, Call.operands] at ha
  have h1 : s2.ev fo = s.ev fo := ha fo (by simp)
  have h2 : args.toList.map s2.ev = args.toList.map s.ev := List.map_congr_left fun x hx => ha x (by simp; right; simpa using hx)
  have h3 : ∀ l : List Operand, (∀ x ∈ l, peekG s2.H (s.ev x) = peekG s.H (s.ev x)) → peekList (peekG s2.H) (l.map s.ev) = peekList (peekG s.H) (l.map s.ev) := by
    intro l
    induction l with
    | nil => intro _; rfl
    | cons x l ih =>
      intro hl
      simp only [List.map_cons, peekList]
      rw [ih fun y hy => hl y (by simp [hy]), hl x (by simp)]
  unfold callA
  rw [h1, h2, h3 _ h]
def isPk (k : Nat) : AV → Bool
  | .p _ => true
  | .sl j _ _ => j == k
  | _ => false
theorem runs2_callG {all : Array Oper} {rest : List Oper} {K : St → List I2 → Prop} {acc : List I2} {s : St} {dst : Option Tmp} {ty : TypeId} {pos : String} {aft : Array Edge} {gd : Option (Nat × Bool)} {fo : Operand} {args : Array Operand} {ts : Array TypeId} {g : FuncId} {avs : List PV} {p : Prop} {len : Nat} {l : List PV}
    (hc : FnG P g avs (.sl 0 0 len) [.own (opl l)]) (hg : guardA all s { dst := dst, op := .call { callee := .value fo, args := args, argTypes := ts }, type := ty, pos := pos, after := aft, guard := gd } = some true)
    (hcall : callA s fo args = some (g, avs, p, true)) (hpure : args.toList.all (fun x => isP (s.ev x)) = true) (hd : dstOk s dst) (hp : p)
    (h : Runs2 P all rest K (({ s with H := s.H ++ [.own (opl l)] } : St).put dst (.sl s.H.length 0 len)) (acc ++ [⟨.nw s.H.length, .sl s.H.length 0 len, .own (opl l), true⟩])) :
    Runs2 P all ({ dst := dst, op := .call { callee := .value fo, args := args, argTypes := ts }, type := ty, pos := pos, after := aft, guard := gd } :: rest) K s acc := by
  obtain ⟨s', xs, hr, hK⟩ := h
  refine ⟨s', ⟨.nw s.H.length, .sl s.H.length 0 len, .own (opl l), true⟩ :: xs, .op hg (dstOk_spec hd) ⟨rfl, ?_⟩ (fun _ c hc q hq κ => by
    obtain rfl : c = opl l := by simpa [I2.blks] using hc
    have e : ∃ v, (opl l)[q] = .p v := ⟨l[q]'(by simpa [opl] using hq), by simp [opl]⟩
    obtain ⟨v, e⟩ := e
    rw [e]
    exact .p _) hr, by rw [List.append_assoc] at hK; exact hK⟩
  intro s2 hn ha hdd n1 n2 n3
  have hcall2 : callA s2 fo args = some (g, avs, p, true) := by
    rw [← hcall]
    refine callA_pure ts ha fun x hx => ?_
    have := (List.all_eq_true.1 hpure) x hx
    cases hev : s.ev x with
    | p v => rfl
    | _ => rw [hev] at this; simp [isP] at this
  have hdo := call_doesG (P := P) (s := s2) (o := { dst := dst, op := .call { callee := .value fo, args := args, argTypes := ts }, type := ty, pos := pos, after := aft, guard := gd }) rfl hc hcall2 hp (by simp [scG, scA, sc1, opl_sc])
  have e1 : Go.Pv.ren (shf s2.H.length [Blk.own (opl l)].length) (.sl 0 0 len) = .sl s2.H.length 0 len := rfl
  have e2 : s2.H ++ [Blk.own (opl l)].map (Blk.ren (shf s2.H.length [Blk.own (opl l)].length)) = s2.H ++ [.own (opl l)] := by
    simp only [List.map_cons, List.map_nil, Blk.ren, opl_ren]
  rw [e1, e2] at hdo
  intro C m a w K Q R hK
  refine hdo C m a w K Q R fun v m' w' R' hv => ?_
  obtain ⟨g1, _, g2⟩ := Rel.move R (b := .own (opl l)) R' hdd n3 (fun _ _ h => by cases h) n1 n2 fun c hc i hi => by
    cases hc
    have e : ∃ v, (opl l)[i] = .p v := ⟨l[i]'(by simpa [opl] using hi), by simp [opl]⟩
    obtain ⟨v, e⟩ := e
    rw [e]
    exact ⟨.p _, .p _⟩
  exact hK v _ w' g1 (g2 _ _ v hv)
theorem fin2_run {all : Array Oper} {K : St → List I2 → Prop} {vc : Prop} {s : St} {acc : List I2} (h1 : vc) (h2 : K s acc) : fin2 P all K (.run vc s acc) := ⟨h1, h2⟩
theorem fin2_stop {all : Array Oper} {K : St → List I2 → Prop} {vc : Prop} {r : List Oper} {s : St} {acc : List I2} (h1 : vc) (h2 : Runs2 P all r K s acc) : fin2 P all K (.stop vc r s acc) := ⟨h1, h2⟩
theorem hk_draw2 {Q : Exit → St → Prop} {s : St} {id : Nat} {l : List Oper} (hm : P.follows .mixedOrders = true) (h : ∀ K : St → List I2 → Prop, (∀ s' xs, draw2OK l.toArray xs = true → Q .normal s' → K s' xs) → Runs2 P l.toArray l K s []) : Holds P (.region id l.toArray true) Q s := by
  intro r ds C m a w R hd
  obtain ⟨s', xs, hr, hK⟩ := h (fun s' xs => draw2OK l.toArray xs = true ∧ Q .normal s') fun _ _ h1 h2 => ⟨h1, h2⟩
  rw [List.nil_append] at hK
  refine wpR_region_any hm ?_
  exact draw2_sound hK.1 (by simpa using hr) (R.later ⟨rfl, rfl, rfl, Nat.le_refl _, fun _ _ => rfl, Nat.le_succ _⟩) hd fun m' a' w' R' hd' => ⟨s', m', hK.2, R', hd'⟩
end
def evD := And.intro @aops2.eq_1
  <| And.intro @aops2.eq_2
  <| And.intro @aops2.eq_3
  <| And.intro @xstep2.eq_1
  <| And.intro @clsA.eq_1
  <| And.intro @clsA.eq_2
  <| And.intro @clsA.eq_3
  <| And.intro @clsA.eq_4
  <| And.intro @clsA.eq_5
  <| And.intro @clsA.eq_6
  <| And.intro @clsA.eq_7
  <| And.intro @allIsP.eq_1
  <| And.intro @allIsP.eq_2
  <| And.intro @blkOf.eq_1
  <| And.intro @blkOf.eq_2
  <| And.intro @blkOf.eq_3
  <| And.intro @blkOf.eq_4
  <| And.intro @isT.eq_1
  <| And.intro @isT.eq_2
  <| And.intro @isT.eq_3
  <| And.intro @isT.eq_4
  <| And.intro @isT.eq_5
  <| And.intro @isT.eq_6
  <| And.intro @isT.eq_7
  <| And.intro @isT.eq_8
  <| And.intro @isT.eq_9
  <| And.intro @isT.eq_10
  <| And.intro @isT.eq_11
  <| And.intro @isT.eq_12
  <| And.intro @isT.eq_13
  <| And.intro @isT.eq_14
  <| And.intro @isT.eq_15
  <| And.intro @isT.eq_16
  <| And.intro @isT.eq_17
  <| And.intro @isP.eq_1
  <| And.intro @isP.eq_2
  <| And.intro @isPk.eq_1
  <| And.intro @isPk.eq_2
  <| And.intro @isPk.eq_3
  <| And.intro @cond_true.{0}
  <| @cond_false.{0}
def qa := @thn_n
def qb := @thn_r
def qc := @thn_x
def qd := @inb_n
def qe := @inb_r
def qf := @inb_x
def qh := @hk_skip
def qi := @hk_label
def qj := @hk_exit
def qk := @hk_ret
def ql := @hk_block
def qm := @hk_seq
def qg := @inb_y
end Go.Pv

namespace Go.Pv
open Go.RowKit
def ancs : Nat → Nat → Heap
  | _, 0 => []
  | k, n + 1 => .anc k k :: ancs (k + 1) n
theorem ancs_get : ∀ (n k j : Nat) (b : Blk), (ancs k n)[j]? = some b → j < n ∧ b = .anc (k + j) (k + j)
  | 0, k, j, b, h => by simp [ancs] at h
  | n + 1, k, 0, b, h => by simp [ancs] at h; exact ⟨by omega, h.symm⟩
  | n + 1, k, j + 1, b, h => by
    have := ancs_get n (k + 1) j b (by simpa [ancs] using h)
    refine ⟨by omega, ?_⟩
    rw [this.2, show k + 1 + j = k + (j + 1) by omega]
theorem ancs_at : ∀ (n k j : Nat), j < n → (ancs k n)[j]? = some (.anc (k + j) (k + j))
  | n + 1, k, 0, _ => rfl
  | n + 1, k, j + 1, h => by
    rw [show ancs k (n + 1) = .anc k k :: ancs (k + 1) n from rfl, List.getElem?_cons_succ, ancs_at n (k + 1) j (by omega), show k + 1 + j = k + (j + 1) by omega]
theorem ancs_length : ∀ (n k : Nat), (ancs k n).length = n
  | 0, _ => rfl
  | n + 1, k => by simp [ancs, ancs_length n]
def entA : Nat → List AV → List (Nat × AV)
  | _, [] => []
  | k, a :: r => (k, a) :: entA (k + 1) r
theorem entA_lk : ∀ (l : List AV) (k t : Nat), lk (entA k l) t = if k ≤ t then l.getD (t - k) .dead else .dead
  | [], k, t => by simp [entA, lk]
  | a :: r, k, t => by
    simp only [entA, lk]
    by_cases h : k = t
    · subst h; simp
    · rw [show (k == t) = false by simpa using h]
      simp only [cond_false]
      rw [entA_lk r (k + 1) t]
      by_cases hk : k ≤ t
      · rw [if_pos (by omega), if_pos hk, show t - k = (t - (k + 1)) + 1 by omega]; rfl
      · rw [if_neg (by omega), if_neg hk]
theorem app_get {H X : Heap} {k : Nat} {b : Blk} (h : (H ++ X)[k]? = some b) : (k < H.length ∧ H[k]? = some b) ∨ X[k - H.length]? = some b := by
  by_cases hk : k < H.length
  · exact .inl ⟨hk, by rwa [List.getElem?_append_left hk] at h⟩
  · exact .inr (by rwa [List.getElem?_append_right (by omega)] at h)
section
variable {P : Program} {T : TypeId → Option TI} {C : Ctx} {m : Map} {s : St} {tmps : Array Value} {w : World}
theorem Rel.addAnc (R : Rel C m s tmps w) {n : Nat} (hn : n ≤ s.H.length) (ha : ∀ i, i < n → m i = C.anc i) : Rel C m { s with H := s.H ++ ancs 0 n } tmps w := by
  have gen : ∀ (k : Nat) (b : Blk), (∀ i j, b ≠ .anc i j) → (s.H ++ ancs 0 n)[k]? = some b → k < s.H.length ∧ s.H[k]? = some b := by
    intro k b hb h
    rcases app_get h with h | h
    · exact h
    · exact absurd (ancs_get _ _ _ _ h).2 (hb _ _)
  have own : ∀ (k : Nat) (c : List AV), (s.H ++ ancs 0 n)[k]? = some (.own c) → k < s.H.length ∧ s.H[k]? = some (.own c) := fun k c h => gen k _ (fun _ _ h => by cases h) h
  have mps : ∀ (k : Nat) (kk : IntKind) (d : Int → Bool) (v : Int → PV), (s.H ++ ancs 0 n)[k]? = some (Blk.mp kk d v) → k < s.H.length ∧ s.H[k]? = some (Blk.mp kk d v) := fun k _ _ _ h => gen k _ (fun _ _ h => by cases h) h
  have ho : ∀ b, OK C m s.H w b → OK C m (s.H ++ ancs 0 n) w b := fun b h => ⟨h.1, h.2.1, fun k c l hk hl => h.2.2 k c l (own k c hk).2 hl⟩
  have hlen : s.H.length ≤ (s.H ++ ancs 0 n).length := by simp
  have rd : ∀ p v, Reads (OK C m s.H w) w p v → Reads (OK C m (s.H ++ ancs 0 n) w) w p v := fun p v h => h.mono ho
  refine ⟨R.laid.ext rd, R.below, R.base, R.size, fun k k' c c' l l' h1 h2 => R.inj k k' c c' l l' (own k c h1).2 (own k' c' h2).2, fun k c h => (R.blk k c (own k c h).2).ext rd hlen (fun _ _ => rfl) rfl fun _ _ => rfl,
    fun k c h => (R.fro k c (gen k _ (fun _ _ h => by cases h) h).2).ext ho (fun _ _ => rfl) rfl, fun t => (R.slot t).ext rd hlen fun _ _ => rfl, fun k kk d v h => (R.mp.1 k kk d v (mps k kk d v h).2).ext ho (fun _ _ => rfl) rfl fun _ _ => rfl,
    fun k k' kk d v kk' d' v' l l' h1 h2 => R.mp.2.1 k k' kk d v kk' d' v' l l' (mps _ _ _ _ h1).2 (mps _ _ _ _ h2).2, fun k i j h => ?_, R.mp.2.2.2.ext id (fun k r h => ⟨(gen k _ (fun _ _ h => by cases h) h).2, rfl⟩) (fun _ _ _ _ _ _ h => h) (fun _ _ _ _ _ _ => rfl) fun _ _ _ _ _ h => h⟩
  rcases app_get h with h | h
  · obtain ⟨a1, a2⟩ := R.mp.2.2.1 k i j h.2
    exact ⟨by simp; omega, a2⟩
  · obtain ⟨a1, a2⟩ := ancs_get _ _ _ _ h
    cases a2
    refine ⟨by simp; omega, ?_⟩
    rw [ha _ (by omega)]
def FnM (P : Program) (f : FuncId) (args : List AV) (H0 : Heap) (r : AV) (H1 : Heap) : Prop :=
  Fun P f ∧ ∀ (C : Ctx) (m : Map) (w : World) (vals : Array Value), Rel C m ⟨args.length, entA 0 args, H0 ++ ancs 0 H0.length⟩ vals w →
    Calls P f vals w fun e w' => ∃ v m', e = .returned v ∧ Rel C m' ⟨1, [(0, r)], H1 ++ ancs 0 H0.length⟩ #[v] w'
theorem fnm_of (hT : ∀ t ti, T t = some ti → tiOf P t = some ti) {f : FuncId} {fn : Func} {c : Code} {args : List AV} {av : AV} {H0 H1 : Heap} (hf : P.funcs[f]? = some fn) (hb : fn.body = some c) (hnm : (fn.name == "runtime.NumGoroutine") = false) (hn : args.length ≤ fn.ntmps)
    (h : Holds P c (PostG T fn.results.toList av (H1 ++ ancs 0 H0.length)) ⟨fn.ntmps, entA 0 args, H0 ++ ancs 0 H0.length⟩) : FnM P f args H0 av H1 := by
  refine ⟨⟨fn, hf, hnm, by rw [hb]; rfl⟩, fun C m w vals R0 => calls_of_wp hf hb (wpR_none.1 ?_)⟩
  have hsz : vals.size = args.length := R0.size
  have R : Rel C m ⟨fn.ntmps, entA 0 args, H0 ++ ancs 0 H0.length⟩ (vals ++ Array.replicate (fn.ntmps - vals.size) undef) w := by
    refine ⟨R0.laid, R0.below, R0.base, by simp; omega, R0.inj, R0.blk, R0.fro, fun t => ?_, R0.mp⟩
    have hs := R0.slot t
    by_cases ht : t < vals.size
    · rw [Array.getD_eq_getD_getElem?, Array.getElem?_append_left ht, ← Array.getD_eq_getD_getElem?]
      exact hs
    · have e : lk (entA 0 args) t = .dead := by
        rw [entA_lk, if_pos (Nat.zero_le _), List.getD_eq_getElem?_getD, List.getElem?_eq_none (by omega)]; rfl
      unfold St.get
      simp only
      rw [e]
      exact .dead _
  refine wpR_mono (h none [] _ _ { tmps := vals ++ Array.replicate (fn.ntmps - vals.size) undef, defers := [] } w R rfl) fun e a' w' ⟨s', m', h1, h2, h3⟩ => ?_
  have fini : endG T fn.results.toList av (H1 ++ ancs 0 H0.length) s' → a'.defers = [] ∧ ∃ v, (results fn a'.tmps).run P w' = .ok v w' ∧ ∃ v_1 m'', Ending.returned v = .returned v_1 ∧ Rel C m'' ⟨1, [(0, av)], H1 ++ ancs 0 H0.length⟩ #[v_1] w' := by
    intro he
    unfold endG at he
    split at he
    · rename_i p l hl
      obtain ⟨hp, π, hav, hsc, hle⟩ := he
      obtain ⟨vs, e1, e2, e3⟩ := rvsA_run hT h2 fn.results.toList hl hp
      have hv := mkTup_val (w := w') e2 e3
      have R' := h2.weaken hle
      rw [hav] at hv
      have hlen : (H1 ++ ancs 0 H0.length).length = π.length := (hle.2.2.1.get).1.symm
      have ho := OK.weaken (C := C) (m := m') (w := w') hle.2.2.1
      have hv2 := hv.unren (fun p v h => h.mono ho) hlen hsc
      refine ⟨h3, (if h : vs.toArray.size = 1 then vs.toArray[0] else .tuple vs.toArray), ?_, _, _, rfl, R'.laid, R'.below, R'.base, rfl, R'.inj, R'.blk, R'.fro, fun t => ?_, R'.mp⟩
      · rw [results_eq, Array.mapM_eq_mapM_toList]
        simp only [Sem.run_bind, Sem.run_map]
        rw [e1]
        simp only [Result.andThen_ok]
        rfl
      · cases t with
        | zero => exact hv2
        | succ t => exact .dead _
    · exact he.elim
  cases e with
  | normal => exact fini h1
  | ret => exact fini h1
  | _ => exact h1.elim
theorem AVal.sig {rd rd' : PV → Value → Prop} {m m2 : Map} {H H2 : Heap} {σ : List Nat} (h1 : ∀ p v, rd p v → rd' p v) (hs : ∀ k, k < σ.length → σ.getD k 0 < H2.length ∧ m2 (σ.getD k 0) = m k) {x : AV} {v : Value} (h : AVal rd m H x v)
    (hx : scA σ.length x = true) : AVal rd' m2 H2 (Go.Pv.ren σ x) v := by
  have one : ∀ {x : AV} {v : Value}, AVal rd m H x v → sc1 σ.length x = true → AVal rd' m2 H2 (ren1 σ x) v := by
    intro x v h hsc
    cases h with
    | dead v => exact .dead v
    | p pv v h => exact .p pv v (h1 _ _ h)
    | sl k lo len v hk h =>
      obtain ⟨g1, g2⟩ := hs k (by simpa [sc1] using hsc)
      refine .sl _ lo len v g1 ?_
      unfold SlOk at *
      rw [g2]; exact h
    | ptr k i v hk h =>
      obtain ⟨g1, g2⟩ := hs k (by simpa [sc1] using hsc)
      refine .ptr _ i v g1 ?_
      unfold PtrOk at *
      rw [g2]; exact h
    | agg l vs hl hr => simp [sc1] at hsc
    | tup l vs hl hr => simp [sc1] at hsc
    | cl f l vs hl hr => simp [sc1] at hsc
    | itv r => exact .itv r
    | sls k lo len sz v hk h =>
      obtain ⟨g1, g2⟩ := hs k (by simpa [sc1] using hsc)
      refine .sls _ lo len sz v g1 ?_
      unfold SlsOk at *
      rw [g2]; exact h
    | mptr k v hk h =>
      obtain ⟨g1, g2⟩ := hs k (by simpa [sc1] using hsc)
      refine .mptr _ v g1 ?_
      unfold MptrOk at *
      rw [g2]; exact h
    | yv k l vs v hk h hl hr => simp [sc1] at hsc
  cases x with
  | agg l =>
    cases h with
    | agg _ vs hl hr =>
      refine .agg _ vs (by simpa using hl) fun c hc => ?_
      rw [List.length_map] at hc
      rw [List.getElem_map]
      exact one (hr c hc) ((List.all_eq_true.1 hx) _ (List.getElem_mem hc))
  | tup l =>
    cases h with
    | tup _ vs hl hr =>
      refine .tup _ vs (by simpa using hl) fun c hc => ?_
      rw [List.length_map] at hc
      rw [List.getElem_map]
      exact one (hr c hc) ((List.all_eq_true.1 hx) _ (List.getElem_mem hc))
  | cl f l =>
    cases h with
    | cl _ _ vs hl hr =>
      refine .cl _ _ vs (by simpa using hl) fun c hc => ?_
      rw [List.length_map] at hc
      rw [List.getElem_map]
      exact one (hr c hc) ((List.all_eq_true.1 hx) _ (List.getElem_mem hc))
  | yv k l vs =>
    simp only [scA, Bool.and_eq_true, decide_eq_true_eq] at hx
    cases h with
    | yv _ _ _ _ hk h hl hr =>
      obtain ⟨g1, g2⟩ := hs k hx.1
      refine .yv _ _ vs v g1 ?_ (by simpa using hl) fun c hc => ?_
      · unfold YvOk at *
        rw [g2]; exact h
      · rw [List.length_map] at hc
        rw [List.getElem_map]
        exact one (hr c hc) ((List.all_eq_true.1 hx.2) _ (List.getElem_mem hc))
  | dead => exact one h hx
  | p pv => exact one h hx
  | sl k lo len => exact one h hx
  | ptr k i => exact one h hx
  | mptr k => exact one h hx
  | itv r => exact one h hx
  | sls k lo len sz => exact one h hx
def putM : Heap → List Nat → Heap → Heap
  | H, [], bs => H ++ bs
  | H, _ :: _, [] => H
  | H, k :: ks, b :: bs => putM (hset H k b) ks bs
theorem putM_get : ∀ (ks : List Nat) (bs H : Heap) (k : Nat) (b : Blk), (∀ k ∈ ks, k < H.length) → ks.length ≤ bs.length → (putM H ks bs)[k]? = some b →
    (∃ j : Nat, bs[j]? = some b ∧ (ks ++ List.range' H.length (bs.length - ks.length))[j]? = some k) ∨ (k < H.length ∧ k ∉ ks ∧ H[k]? = some b)
  | [], bs, H, k, b, _, _, h => by
    simp only [putM] at h
    by_cases hk : k < H.length
    · exact .inr ⟨hk, by simp, by rwa [List.getElem?_append_left hk] at h⟩
    · rw [List.getElem?_append_right (by omega)] at h
      · refine .inl ⟨k - H.length, h, ?_⟩
        have := (List.getElem?_eq_some_iff.1 h).1
        simp only [List.nil_append, List.length_nil, Nat.sub_zero]
        rw [List.getElem?_range' this]
        simp; omega
  | k0 :: ks, [], H, k, b, _, hl, _ => by simp at hl
  | k0 :: ks, b0 :: bs, H, k, b, hk, hl, h => by
    simp only [putM] at h
    have h0 := hk k0 (by simp)
    rcases putM_get ks bs (hset H k0 b0) k b (fun k hk' => by rw [hset_length]; exact hk k (by simp [hk'])) (by simpa using hl) h with ⟨j, h1, h2⟩ | ⟨h1, h2, h3⟩
    · rw [hset_length] at h2
      exact .inl ⟨j + 1, by simpa using h1, by simpa using h2⟩
    · rw [hset_get] at h3
      rw [hset_length] at h1
      by_cases e : k = k0
      · subst e
        rw [if_pos ⟨rfl, h0⟩] at h3
        exact .inl ⟨0, by simpa using h3, by simp⟩
      · rw [if_neg (by simp [e])] at h3
        exact .inr ⟨h1, by simp [e, h2], h3⟩
theorem putM_length : ∀ (ks : List Nat) (bs H : Heap), ks.length ≤ bs.length → (putM H ks bs).length = H.length + (bs.length - ks.length)
  | [], bs, H, _ => by simp [putM]
  | k0 :: ks, [], H, hl => by simp at hl
  | k0 :: ks, b0 :: bs, H, hl => by
    simp only [putM]
    rw [putM_length ks bs _ (by simpa using hl), hset_length]; simp
def mpKeep : Heap → Heap → Bool
  | .mp _ _ _ :: r, .mp _ _ _ :: t => mpKeep r t
  | .mp _ _ _ :: _, _ => false
  | .lp _ :: r, .lp _ :: t => mpKeep r t
  | .lp _ :: _, _ => false
  | _ :: r, _ :: t => mpKeep r t
  | [], _ => true
  | _ :: _, [] => false
theorem mpKeep_get : ∀ {H0 H1 : Heap}, mpKeep H0 H1 = true → ∀ (j : Nat) (kk : IntKind) (d : Int → Bool) (v : Int → PV), H0[j]? = some (.mp kk d v) → ∃ kk' d' v', H1[j]? = some (.mp kk' d' v')
  | [], _, _, j, _, _, _, h => by simp at h
  | b :: r, [], hm, _, _, _, _, _ => by cases b <;> simp [mpKeep] at hm
  | b :: r, b' :: t, hm, 0, kk, d, v, h => by
    simp at h; subst h
    cases b' <;> simp [mpKeep] at hm
    exact ⟨_, _, _, rfl⟩
  | b :: r, b' :: t, hm, j + 1, kk, d, v, h => by
    have hm2 : mpKeep r t = true := by cases b <;> cases b' <;> simp [mpKeep] at hm <;> exact hm
    simpa using mpKeep_get hm2 j kk d v (by simpa using h)
theorem mpKeep_lp : ∀ {H0 H1 : Heap}, mpKeep H0 H1 = true → ∀ (j : Nat) (r0 : Loop), H0[j]? = some (.lp r0) → ∃ r1, H1[j]? = some (.lp r1)
  | [], _, _, j, _, h => by simp at h
  | b :: r, [], hm, _, _, _ => by cases b <;> simp [mpKeep] at hm
  | b :: r, b' :: t, hm, 0, r0, h => by
    simp at h; subst h
    cases b' <;> simp [mpKeep] at hm
    exact ⟨_, rfl⟩
  | b :: r, b' :: t, hm, j + 1, r0, h => by
    have hm2 : mpKeep r t = true := by cases b <;> cases b' <;> simp [mpKeep] at hm <;> exact hm
    simpa using mpKeep_lp hm2 j r0 (by simpa using h)
def scM (av : AV) (H0 H1 : Heap) : Bool :=
  scA H1.length av && H1.all (fun | .own c => c.all (scA H1.length) | .anc _ _ => false | _ => true) && decide (H0.length ≤ H1.length) && mpKeep H0 H1 && H0.all notAnc
def subC (C : Ctx) (m : Map) (H : Heap) (ks : List Nat) (H0 : Heap) (w : World) : Ctx :=
  ⟨fun b => OK C m H w b, fun b => w.heap.size ≤ b ∨ ∃ (j : Nat) (b0 : Blk) (l : Loc), H0[j]? = some b0 ∧ b0.wr = true ∧ mren m ks j = some l ∧ l.g = b, w, mren m ks⟩
theorem Rel.wrLt (R : Rel C m s tmps w) {k : Nat} {b : Blk} (hb : s.H[k]? = some b) (hw : b.wr = true) {l : Loc} (hl : m k = some l) : C.B l.g ∧ l.g < w.heap.size := by
  cases b with
  | own c =>
    rcases R.blk k c hb with ⟨_, hn⟩ | ⟨l', cur, e, a1, a2, a3, _⟩
    · rw [hl] at hn; cases hn
    · rw [hl] at a1; cases a1
      exact ⟨a2, (Array.getElem?_eq_some_iff.1 a3).1⟩
  | mp kk d v =>
    obtain ⟨l', ar, clk, vs, a1, a2, a3, _⟩ := R.mp.1 k kk d v hb
    rw [hl] at a1; cases a1
    exact ⟨a2, (Array.getElem?_eq_some_iff.1 a3).1⟩
  | lp r =>
    obtain ⟨l', a1, a2, a3⟩ := R.mp.2.2.2.1 k r hb
    rw [hl] at a1; cases a1
    exact ⟨a2, (Array.getElem?_eq_some_iff.1 a3).1⟩
  | _ => cases hw
theorem Rel.inj2 (R : Rel C m s tmps w) {k k' : Nat} {b b' : Blk} (hb : s.H[k]? = some b) (hw : b.wr = true) (hb' : s.H[k']? = some b') (hw' : b'.wr = true) {l l' : Loc} (hl : m k = some l) (hl' : m k' = some l') (e : l.g = l'.g) : k = k' := by
  cases b with
  | own c =>
    cases b' with
    | own c' => exact R.inj k k' c c' l l' hb hb' hl hl' e
    | mp kk d v => exact absurd e ((R.mpOK hb' hl').2.2 k c l hb hl)
    | lp r => exact absurd e ((R.lpOK hb' hl').2.2 k c l hb hl)
    | _ => cases hw'
  | mp kk d v =>
    cases b' with
    | own c' => exact absurd e.symm ((R.mpOK hb hl).2.2 k' c' l' hb' hl')
    | mp kk' d' v' => exact R.mp.2.1 _ _ _ _ _ _ _ _ _ _ hb hb' hl hl' e
    | lp r =>
      exfalso
      obtain ⟨l1, ar, clk, vs, a1, a2, a3, _⟩ := R.mp.1 k kk d v hb
      obtain ⟨l2, b1, b2, b3⟩ := R.mp.2.2.2.1 k' r hb'
      rw [hl] at a1; cases a1
      rw [hl'] at b1; cases b1
      rw [e, b3] at a3; cases a3
    | _ => cases hw'
  | lp r =>
    cases b' with
    | own c' => exact absurd e.symm ((R.lpOK hb hl).2.2 k' c' l' hb' hl')
    | mp kk d v =>
      exfalso
      obtain ⟨l1, ar, clk, vs, a1, a2, a3, _⟩ := R.mp.1 k' kk d v hb'
      obtain ⟨l2, b1, b2, b3⟩ := R.mp.2.2.2.1 k r hb
      rw [hl'] at a1; cases a1
      rw [hl] at b1; cases b1
      rw [e, a3] at b3; cases b3
    | lp r' => exact R.mp.2.2.2.2 _ _ _ _ _ _ hb hb' hl hl' e
    | _ => cases hw'
  | _ => cases hw
theorem LeH.wr {π : List Nat} {H H1 : Heap} (h3 : LeH π H π H1) {j : Nat} {b0 : Blk} (h : H1[j]? = some b0) (hw : b0.wr = true) : ∃ k' b, π[j]? = some k' ∧ H[k']? = some b ∧ b.wr = true ∧ ((∃ c, b0 = .own c) → ∃ c, b = .own c) ∧ ((∃ kk d v, b0 = .mp kk d v) → ∃ kk d v, b = .mp kk d v) := by
  obtain ⟨g1, g2⟩ := h3.get
  cases b0 with
  | own c =>
    obtain ⟨k', d, a1, a2, _⟩ := LeH.own g2 j c h
    exact ⟨k', _, a1, a2, rfl, (fun _ => ⟨_, rfl⟩), fun ⟨_, _, _, h⟩ => by cases h⟩
  | mp kk d v =>
    obtain ⟨k', a, b⟩ := g2 j _ h
    exact ⟨k', _, a, hget_some b (by simp), rfl, (fun ⟨_, h⟩ => by cases h), fun _ => ⟨_, _, _, rfl⟩⟩
  | lp r =>
    obtain ⟨k', a, b⟩ := g2 j _ h
    exact ⟨k', _, a, hget_some b (by simp), rfl, (fun ⟨_, h⟩ => by cases h), fun ⟨_, _, _, h⟩ => by cases h⟩
  | _ => cases hw
def kills (H : Heap) : List Nat → Heap
  | [] => H
  | k :: ks => kills (hset H k .dead) ks
theorem kills_length : ∀ (ks : List Nat) (H : Heap), (kills H ks).length = H.length
  | [], H => rfl
  | k :: ks, H => by rw [kills, kills_length ks, hset_length]
theorem kills_get : ∀ (ks : List Nat) (H : Heap) {k : Nat} {b : Blk}, (kills H ks)[k]? = some b → (k ∈ ks ∧ b = .dead) ∨ (k ∉ ks ∧ H[k]? = some b)
  | [], H, k, b, h => .inr ⟨by simp, h⟩
  | k0 :: ks, H, k, b, h => by
    rcases kills_get ks _ h with ⟨h1, h2⟩ | ⟨h1, h2⟩
    · exact .inl ⟨by simp [h1], h2⟩
    · rw [hset_get] at h2
      by_cases e : k = k0 ∧ k0 < H.length
      · rw [if_pos e] at h2; exact .inl ⟨by simp [e.1], (Option.some.inj h2).symm⟩
      · rw [if_neg e] at h2
        by_cases e2 : k = k0
        · have := (List.getElem?_eq_some_iff.1 h2).1
          exact absurd ⟨e2, by omega⟩ e
        · exact .inr ⟨by simp [e2, h1], h2⟩
def scQ (q : Nat) (av : AV) (H0 H1 : Heap) : Bool :=
  scA H1.length av && H1.all (fun | .own c => c.all (scA H1.length) | .anc _ _ => false | _ => true) && decide (q ≤ H1.length) && decide (q ≤ H0.length) && mpKeep (H0.take q) H1 && (H0.drop q).all (fun b => !b.spc) && H0.all notAnc
theorem Rel.joinQ (R : Rel C m s tmps w) {q : Nat} {ks : List Nat} {H0 H1 : Heap} {r : AV} {w' : World} {v : Value} {m' : Map} (hle : LeH ks s.H ks H0) (hks : ∀ k ∈ ks, k < s.H.length) (R1 : Rel (subC C m s.H ks H0 w) m' ⟨1, [(0, r)], H1 ++ ancs 0 q⟩ #[v] w') (hsc : scQ q r H0 H1 = true) :
    ∃ m2, Rel C m2 { s with H := putM (kills s.H (ks.drop q)) (ks.take q) (H1.map (Blk.ren (ks.take q ++ List.range' s.H.length (H1.length - q)))) } tmps w' ∧
      AVal (Reads (OK C m2 (putM (kills s.H (ks.drop q)) (ks.take q) (H1.map (Blk.ren (ks.take q ++ List.range' s.H.length (H1.length - q))))) w') w') m2 (putM (kills s.H (ks.drop q)) (ks.take q) (H1.map (Blk.ren (ks.take q ++ List.range' s.H.length (H1.length - q))))) (Go.Pv.ren (ks.take q ++ List.range' s.H.length (H1.length - q)) r) v ∧ ∀ k, k < s.H.length → m2 k = m k := by
  obtain ⟨g1, g2⟩ := hle.get
  unfold scQ at hsc
  rw [Bool.and_eq_true, Bool.and_eq_true, Bool.and_eq_true, Bool.and_eq_true, Bool.and_eq_true, Bool.and_eq_true, decide_eq_true_eq, decide_eq_true_eq] at hsc
  obtain ⟨⟨⟨⟨⟨⟨s1, s2⟩, s3⟩, s6⟩, s4⟩, s7⟩, s5⟩ := hsc
  have hn : q ≤ H1.length := s3
  have hqk : q ≤ ks.length := by omega
  have hkt : ∀ k ∈ ks.take q, k ∈ ks := fun k h => List.mem_of_mem_take h
  have htl : (ks.take q).length = q := by rw [List.length_take]; omega
  generalize hσe : ks.take q ++ List.range' s.H.length (H1.length - q) = σ
  have hσlen : σ.length = H1.length := by rw [← hσe, List.length_append, htl, List.length_range']; omega
  generalize hH2 : putM (kills s.H (ks.drop q)) (ks.take q) (H1.map (Blk.ren σ)) = H2
  have hlen2 : H2.length = s.H.length + (H1.length - q) := by rw [← hH2, putM_length _ _ _ (by rw [htl, List.length_map]; exact hn), kills_length, htl]; simp
  have hm1 : ∀ j, j < q → m' j = mren m ks j := fun j hj => by
    have h : (H1 ++ ancs 0 q)[H1.length + j]? = some (.anc j j) := by
      rw [List.getElem?_append_right (by omega), Nat.add_sub_cancel_left, ancs_at _ _ _ hj, Nat.zero_add]
    exact (R1.mp.2.2.1 _ _ _ h).2
  obtain ⟨m2, hm2⟩ : ∃ m2 : Map, m2 = fun k => if k < s.H.length then m k else m' (q + (k - s.H.length)) := ⟨_, rfl⟩
  have hmo : ∀ k, k < s.H.length → m2 k = m k := fun k h => by rw [hm2]; simp [h]
  have hσ : ∀ (j k : Nat), σ[j]? = some k → k < H2.length ∧ m2 k = m' j := by
    intro j k h
    rw [← hσe] at h
    by_cases hj : j < q
    · rw [List.getElem?_append_left (by omega)] at h
      rw [List.getElem?_take, if_pos hj] at h
      have hk := hks k (List.mem_of_getElem? h)
      refine ⟨by omega, ?_⟩
      rw [hmo k hk, hm1 j (by omega)]
      simp only [mren, h, Option.bind_some]
    · rw [List.getElem?_append_right (by omega), htl] at h
      have hj2 : j - q < H1.length - q := by
        have := (List.getElem?_eq_some_iff.1 h).1
        simpa using this
      rw [List.getElem?_range' hj2] at h
      simp only [Option.some.injEq, Nat.one_mul] at h
      subst h
      refine ⟨by omega, ?_⟩
      rw [hm2]
      simp only
      rw [if_neg (by omega)]
      congr 1
      omega
  have hσ2 : ∀ k, k < σ.length → σ.getD k 0 < H2.length ∧ m2 (σ.getD k 0) = m' k := fun k hk => by
    have : σ[k]? = some (σ.getD k 0) := by simp [List.getD, List.getElem?_eq_getElem hk]
    exact hσ k _ this
  have hget : ∀ (k : Nat) (b : Blk), H2[k]? = some b → (∃ (j : Nat) (b' : Blk), H1[j]? = some b' ∧ b = b'.ren σ ∧ σ[j]? = some k) ∨ (k < s.H.length ∧ k ∉ ks ∧ s.H[k]? = some b) ∨ b = .dead := by
    intro k b h
    rw [← hH2] at h
    rcases putM_get (ks.take q) _ (kills s.H (ks.drop q)) k b (fun k hk => by rw [kills_length]; exact hks k (hkt k hk)) (by rw [htl, List.length_map]; exact hn) h with ⟨j, h1, h2⟩ | ⟨h1, h2, h3⟩
    · rw [List.length_map, htl, kills_length, hσe] at h2
      rw [List.getElem?_map] at h1
      cases e : H1[j]? with
      | none => rw [e] at h1; cases h1
      | some b' => rw [e] at h1; exact .inl ⟨j, b', e, (Option.some.inj h1).symm, h2⟩
    · rcases kills_get _ _ h3 with ⟨_, e⟩ | ⟨g3, g4⟩
      · exact .inr (.inr e)
      · refine .inr (.inl ⟨by rw [kills_length] at h1; exact h1, fun hk => ?_, g4⟩)
        rw [← List.take_append_drop q ks] at hk
        rcases List.mem_append.1 hk with hk | hk
        · exact h2 hk
        · exact g3 hk
  have hHc : ∀ (j : Nat) (b : Blk), H1[j]? = some b → (H1 ++ ancs 0 q)[j]? = some b := fun j b h => by
    rw [List.getElem?_append_left (List.getElem?_eq_some_iff.1 h).1]; exact h
  have hown : ∀ (k : Nat) (c : List AV), H2[k]? = some (.own c) → (∃ (j : Nat) (c' : List AV), H1[j]? = some (.own c') ∧ c = c'.map (Go.Pv.ren σ) ∧ σ[j]? = some k) ∨ (k < s.H.length ∧ k ∉ ks ∧ s.H[k]? = some (.own c)) := by
    intro k c h
    rcases hget k _ h with ⟨j, b', h1, h2, h3⟩ | h | h
    · cases b' with
      | own c' => simp only [Blk.ren, Blk.own.injEq] at h2; exact .inl ⟨j, c', h1, h2, h3⟩
      | _ => cases h2
    · exact .inr h
    · cases h
  have hmps : ∀ (k : Nat) (kk : IntKind) (d : Int → Bool) (vv : Int → PV), H2[k]? = some (.mp kk d vv) → (∃ j : Nat, H1[j]? = some (.mp kk d vv) ∧ σ[j]? = some k) ∨ (k < s.H.length ∧ k ∉ ks ∧ s.H[k]? = some (.mp kk d vv)) := by
    intro k kk d vv h
    rcases hget k _ h with ⟨j, b', h1, h2, h3⟩ | h | h
    · cases b' with
      | mp kk' d' v' => simp only [Blk.ren, Blk.mp.injEq] at h2; obtain ⟨rfl, rfl, rfl⟩ := h2; exact .inl ⟨j, h1, h3⟩
      | _ => cases h2
    · exact .inr h
    · cases h
  have hfro : ∀ (k : Nat) (c : List PV), H2[k]? = some (.fro c) → (∃ j : Nat, H1[j]? = some (.fro c) ∧ σ[j]? = some k) ∨ (k < s.H.length ∧ k ∉ ks ∧ s.H[k]? = some (.fro c)) := by
    intro k c h
    rcases hget k _ h with ⟨j, b', h1, h2, h3⟩ | h | h
    · cases b' with
      | fro c' => simp only [Blk.ren, Blk.fro.injEq] at h2; subst h2; exact .inl ⟨j, h1, h3⟩
      | _ => cases h2
    · exact .inr h
    · cases h
  have lent : ∀ (j : Nat) (b0 : Blk) (l : Loc), H0[j]? = some b0 → b0.wr = true → mren m ks j = some l → ∃ k' b, k' ∈ ks ∧ s.H[k']? = some b ∧ b.wr = true ∧ m k' = some l ∧ ((∃ c, b0 = .own c) → ∃ c, b = .own c) ∧ ((∃ kk d v, b0 = .mp kk d v) → ∃ kk d v, b = .mp kk d v) := by
    intro j b0 l h hw hl
    obtain ⟨k', b, a1, a2, a3, a4, a5⟩ := hle.wr h hw
    simp only [mren, a1, Option.bind_some] at hl
    exact ⟨k', b, List.mem_of_getElem? a1, a2, a3, hl, a4, a5⟩
  have hB1 : ∀ b, (subC C m s.H ks H0 w).B b → C.B b := by
    intro b hb
    rcases hb with hb | ⟨j, b0, l, h1, h2, h3, rfl⟩
    · exact R.base b hb
    · obtain ⟨k', b, _, a2, a3, a4, _⟩ := lent j b0 l h1 h2 h3
      exact (R.wrLt a2 a3 a4).1
  have hBx : ∀ (k : Nat) (b : Blk) (l : Loc), k ∉ ks → s.H[k]? = some b → b.wr = true → m k = some l → ¬ (subC C m s.H ks H0 w).B l.g := by
    intro k b l hk hb hw hl hB
    rcases hB with hB | ⟨j, b0, l0, h1, h2, h3, h4⟩
    · have := (R.wrLt hb hw hl).2
      omega
    · obtain ⟨k', b', a1, a2, a3, a4, _⟩ := lent j b0 l0 h1 h2 h3
      have := R.inj2 hb hw a2 a3 hl a4 h4.symm
      subst this
      exact hk a1
  have hcell : ∀ b o x, OK C m s.H w b → w.cell? ⟨b, o, none⟩ = some x → w'.cell? ⟨b, o, none⟩ = some x := by
    intro b o x hb hc
    by_cases hB : (subC C m s.H ks H0 w).B b
    · exfalso
      rcases hB with hB | ⟨j, b0, l0, h1, h2, h3, h4⟩
      · have := hb.2.1; omega
      · obtain ⟨k', b', a1, a2, a3, a4, _⟩ := lent j b0 l0 h1 h2 h3
        cases b' with
        | own c => exact hb.2.2 k' c l0 a2 a4 h4
        | mp kk d vv =>
          obtain ⟨l', ar, clk, vs, c1, c2, c3, _⟩ := R.mp.1 k' kk d vv a2
          rw [a4] at c1; cases c1
          rw [h4] at c3
          unfold World.cell? at hc
          simp only [c3] at hc
          first | cases hc | simp at hc
        | lp rr =>
          obtain ⟨l', c1, c2, c3⟩ := R.mp.2.2.2.1 k' rr a2
          rw [a4] at c1; cases c1
          rw [h4] at c3
          unfold World.cell? at hc
          simp only [c3] at hc
          first | cases hc | simp at hc
        | _ => cases a3
    · rw [World.cell?_of_block (w := w) (R1.below.block b hB)]; exact hc
  have hOK : ∀ b, OK (subC C m s.H ks H0 w) m' (H1 ++ ancs 0 q) w' b → OK C m2 H2 w' b := by
    intro b hb
    refine ⟨?_, hb.2.1, fun k c l h hl => ?_⟩
    · rcases hb.1 with h | h
      · exact h.1
      · exact .inr (hB1 b h)
    · rcases hown k c h with ⟨j, c', h1, _, h3⟩ | ⟨h1, h2, h3⟩
      · rw [(hσ j k h3).2] at hl
        exact hb.2.2 j c' l (hHc _ _ h1) hl
      · rw [hmo k h1] at hl
        rcases hb.1 with h' | h'
        · exact h'.2.2 k c l h3 hl
        · intro e
          exact hBx k _ l h2 h3 rfl hl (by rw [e]; exact h')
  have hsp : ∀ (j : Nat) (b : Blk), H0[j]? = some b → b.spc = true → j < q := fun j b h hb => by
    refine Nat.lt_of_not_le fun hq => ?_
    have h2 : (H0.drop q)[j - q]? = some b := by rw [List.getElem?_drop, show q + (j - q) = j by omega]; exact h
    have := (List.all_eq_true.1 s7) _ (List.mem_of_getElem? h2)
    rw [hb] at this; cases this
  have ho1 : ∀ b, OK C m s.H w b → OK C m2 H2 w' b := by
    intro b hb
    refine ⟨hb.1, Nat.lt_of_lt_of_le hb.2.1 R1.below.size, fun k c l h hl e => ?_⟩
    rcases hown k c h with ⟨j, c', h1, _, h3⟩ | ⟨h1, h2, h3⟩
    · rw [(hσ j k h3).2] at hl
      rcases (R1.wrLt (hHc _ _ h1) rfl hl).1 with hB | ⟨j0, b0, l0, a1, a2, a3, a4⟩
      · have := hb.2.1; omega
      · obtain ⟨k', b', d1, d2, d3, d4, d5, d6⟩ := lent j0 b0 l0 a1 a2 a3
        cases b0 with
        | own c0 =>
          obtain ⟨c1, rfl⟩ := d5 ⟨_, rfl⟩
          exact hb.2.2 k' c1 l0 d2 d4 (by rw [a4, e])
        | mp kk d vv =>
          have hj0 := hsp j0 _ a1 rfl
          obtain ⟨kk', d', v', f1⟩ := mpKeep_get s4 j0 kk d vv (by rw [List.getElem?_take, if_pos hj0]; exact a1)
          have f2 : m' j0 = some l0 := by rw [hm1 j0 hj0]; exact a3
          exact (R1.mpOK (hHc _ _ f1) f2).2.2 j c' l (hHc _ _ h1) hl a4.symm
        | lp rr =>
          have hj0 := hsp j0 _ a1 rfl
          obtain ⟨r1, f1⟩ := mpKeep_lp s4 j0 rr (by rw [List.getElem?_take, if_pos hj0]; exact a1)
          have f2 : m' j0 = some l0 := by rw [hm1 j0 hj0]; exact a3
          exact (R1.lpOK (hHc _ _ f1) f2).2.2 j c' l (hHc _ _ h1) hl a4.symm
        | _ => cases a2
    · rw [hmo k h1] at hl
      exact hb.2.2 k c l h3 hl e
  have rd1 : ∀ p x, Reads (OK C m s.H w) w p x → Reads (OK C m2 H2 w') w' p x := fun p x h => h.extc ho1 hcell
  have rd2 : ∀ p x, Reads (OK (subC C m s.H ks H0 w) m' (H1 ++ ancs 0 q) w') w' p x → Reads (OK C m2 H2 w') w' p x := fun p x h => h.mono hOK
  have hlen3 : s.H.length ≤ H2.length := by omega
  have sall : ∀ (j : Nat) (b : Blk), H1[j]? = some b → (match b with | .own c => c.all (scA H1.length) | .anc _ _ => false | _ => true) = true := fun j b h => by
    have := (List.all_eq_true.1 s2) _ (List.mem_of_getElem? h)
    cases b <;> exact this
  refine ⟨m2, ⟨R.laid.ext rd1, R.below.trans ⟨R1.below.os, R1.below.tape, R1.below.output, R1.below.size, fun k hk => R1.below.block k fun h => hk (hB1 k h), R1.below.dr⟩, fun b h => R.base b (Nat.le_trans R1.below.size h), R.size, ?_, ?_, ?_, fun t => ?_, ?_, ?_, ?_, ?_⟩, ?_, hmo⟩
  · intro k k' c c' l l' h1 h2 h3 h4 h5
    rcases hown k c h1 with ⟨j, d, a1, _, a3⟩ | ⟨a1, a2, a3⟩ <;> rcases hown k' c' h2 with ⟨j', d', b1, _, b3⟩ | ⟨b1, b2, b3⟩
    · rw [(hσ _ _ a3).2] at h3; rw [(hσ _ _ b3).2] at h4
      have := R1.inj j j' d d' l l' (hHc _ _ a1) (hHc _ _ b1) h3 h4 h5
      subst this
      rw [a3] at b3
      exact Option.some.inj b3
    · rw [(hσ _ _ a3).2] at h3; rw [hmo _ b1] at h4
      exact absurd (by rw [← h5]; exact (R1.wrLt (hHc _ _ a1) rfl h3).1) (hBx k' _ l' b2 b3 rfl h4)
    · rw [hmo _ a1] at h3; rw [(hσ _ _ b3).2] at h4
      exact absurd (by rw [h5]; exact (R1.wrLt (hHc _ _ b1) rfl h4).1) (hBx k _ l a2 a3 rfl h3)
    · rw [hmo _ a1] at h3; rw [hmo _ b1] at h4
      exact R.inj k k' c c' l l' a3 b3 h3 h4 h5
  · intro k c h
    rcases hown k c h with ⟨j, c', a1, rfl, a3⟩ | ⟨a1, a2, a3⟩
    · rcases R1.blk j c' (hHc _ _ a1) with ⟨e, hn⟩ | ⟨l, cur, e, b1, b2, b3, b4, b5, b6, b7⟩
      · exact .inl ⟨by rw [e]; rfl, by rw [(hσ _ _ a3).2]; exact hn⟩
      · refine .inr ⟨l, cur, e, by rw [(hσ _ _ a3).2]; exact b1, hB1 _ b2, b3, b4, b5, by simpa using b6, fun i hi => ?_⟩
        rw [List.length_map] at hi
        rw [List.getElem_map]
        have hs : scA σ.length c'[i] = true := by
          rw [hσlen]
          exact (List.all_eq_true.1 (sall j _ a1)) _ (List.getElem_mem hi)
        exact (b7 i hi).sig rd2 hσ2 hs
    · refine (R.blk k c a3).ext rd1 hlen3 hmo (hmo k a1) fun l hl => R1.below.block _ (hBx k _ l a2 a3 rfl hl)
  · intro k c h
    rcases hfro k c h with ⟨j, a1, a3⟩ | ⟨a1, a2, a3⟩
    · rcases R1.fro j c (hHc _ _ a1) with ⟨e1, e2⟩ | ⟨l, vs, e1, e2, e3, e4⟩
      · exact .inl ⟨e1, by rw [(hσ _ _ a3).2]; exact e2⟩
      · exact .inr ⟨l, vs, by rw [(hσ _ _ a3).2]; exact e1, hOK _ e2, e3, fun i hi => ⟨(e4 i hi).1, rd2 _ _ (e4 i hi).2⟩⟩
    · rcases R.fro k c a3 with ⟨e1, e2⟩ | ⟨l, vs, e1, e2, e3, e4⟩
      · exact .inl ⟨e1, by rw [hmo k a1]; exact e2⟩
      · exact .inr ⟨l, vs, by rw [hmo k a1]; exact e1, ho1 _ e2, e3, fun i hi => ⟨hcell _ _ _ e2 (e4 i hi).1, rd1 _ _ (e4 i hi).2⟩⟩
  · exact (R.slot t).ext rd1 hlen3 hmo
  · intro k kk d vv h
    rcases hmps k kk d vv h with ⟨j, a1, a3⟩ | ⟨a1, a2, a3⟩
    · obtain ⟨l, ar, clk, vs, b1, b2, b3, b4, b5, b6, b7⟩ := R1.mp.1 j kk d vv (hHc _ _ a1)
      exact ⟨l, ar, clk, vs, by rw [(hσ _ _ a3).2]; exact b1, hB1 _ b2, b3, b4, b5, b6, fun z hz => rd2 _ _ (b7 z hz)⟩
    · obtain ⟨l, ar, clk, vs, b1, b2, b3, b4, b5, b6, b7⟩ := R.mp.1 k kk d vv a3
      exact ⟨l, ar, clk, vs, by rw [hmo k a1]; exact b1, b2, by rw [R1.below.block _ (hBx k _ l a2 a3 rfl b1)]; exact b3, b4, b5, b6, fun z hz => rd1 _ _ (b7 z hz)⟩
  · intro k k' kk d vv kk' d' v' l l' h1 h2 h3 h4 h5
    rcases hmps k kk d vv h1 with ⟨j, a1, a3⟩ | ⟨a1, a2, a3⟩ <;> rcases hmps k' kk' d' v' h2 with ⟨j', b1, b3⟩ | ⟨b1, b2, b3⟩
    · rw [(hσ _ _ a3).2] at h3; rw [(hσ _ _ b3).2] at h4
      have := R1.mp.2.1 _ _ _ _ _ _ _ _ _ _ (hHc _ _ a1) (hHc _ _ b1) h3 h4 h5
      subst this
      rw [a3] at b3
      exact Option.some.inj b3
    · rw [(hσ _ _ a3).2] at h3; rw [hmo _ b1] at h4
      exact absurd (by rw [← h5]; exact (R1.wrLt (hHc _ _ a1) rfl h3).1) (hBx k' _ l' b2 b3 rfl h4)
    · rw [hmo _ a1] at h3; rw [(hσ _ _ b3).2] at h4
      exact absurd (by rw [h5]; exact (R1.wrLt (hHc _ _ b1) rfl h4).1) (hBx k _ l a2 a3 rfl h3)
    · rw [hmo _ a1] at h3; rw [hmo _ b1] at h4
      exact R.mp.2.1 _ _ _ _ _ _ _ _ _ _ a3 b3 h3 h4 h5
  · intro k i j h
    rcases hget k _ h with ⟨j', b', h1, h2, _⟩ | ⟨a1, a2, a3⟩ | h
    · have := sall j' b' h1
      cases b' with
      | anc _ _ => cases this
      | _ => cases h2
    · obtain ⟨c1, c2⟩ := R.mp.2.2.1 k i j a3
      exact ⟨by simp only; omega, by rw [hmo j c1]; exact c2⟩
    · cases h
  · have hlps : ∀ (k : Nat) (r : Loop), H2[k]? = some (.lp r) → (∃ j : Nat, H1[j]? = some (.lp r) ∧ σ[j]? = some k) ∨ (k < s.H.length ∧ k ∉ ks ∧ s.H[k]? = some (.lp r)) := by
      intro k r h
      rcases hget k _ h with ⟨j, b', h1, h2, h3⟩ | h | h
      · cases b' with
        | lp r' => simp only [Blk.ren, Blk.lp.injEq] at h2; obtain rfl := h2; exact .inl ⟨j, h1, h3⟩
        | _ => cases h2
      · exact .inr h
      · cases h
    constructor
    · intro k r h
      rcases hlps k r h with ⟨j, a1, a3⟩ | ⟨a1, a2, a3⟩
      · obtain ⟨l, b1, b2, b3⟩ := R1.mp.2.2.2.1 j r (hHc _ _ a1)
        exact ⟨l, by rw [(hσ _ _ a3).2]; exact b1, hB1 _ b2, b3⟩
      · obtain ⟨l, b1, b2, b3⟩ := R.mp.2.2.2.1 k r a3
        exact ⟨l, by rw [hmo k a1]; exact b1, b2, by rw [R1.below.block _ (hBx k _ l a2 a3 rfl b1)]; exact b3⟩
    · intro k k' r r' l l' h1 h2 h3 h4 h5
      rcases hlps k r h1 with ⟨j, a1, a3⟩ | ⟨a1, a2, a3⟩ <;> rcases hlps k' r' h2 with ⟨j', b1, b3⟩ | ⟨b1, b2, b3⟩
      · rw [(hσ _ _ a3).2] at h3; rw [(hσ _ _ b3).2] at h4
        have := R1.mp.2.2.2.2 _ _ _ _ _ _ (hHc _ _ a1) (hHc _ _ b1) h3 h4 h5
        subst this
        rw [a3] at b3
        exact Option.some.inj b3
      · rw [(hσ _ _ a3).2] at h3; rw [hmo _ b1] at h4
        exact absurd (by rw [← h5]; exact (R1.wrLt (hHc _ _ a1) rfl h3).1) (hBx k' _ l' b2 b3 rfl h4)
      · rw [hmo _ a1] at h3; rw [(hσ _ _ b3).2] at h4
        exact absurd (by rw [h5]; exact (R1.wrLt (hHc _ _ b1) rfl h4).1) (hBx k _ l a2 a3 rfl h3)
      · rw [hmo _ a1] at h3; rw [hmo _ b1] at h4
        exact R.mp.2.2.2.2 _ _ _ _ _ _ a3 b3 h3 h4 h5
  · have := R1.slot 0
    exact AVal.sig rd2 hσ2 this (by rw [hσlen]; exact s1)
theorem kills_nil (H : Heap) : kills H [] = H := rfl
theorem Rel.joinM (R : Rel C m s tmps w) {ks : List Nat} {H0 H1 : Heap} {r : AV} {w' : World} {v : Value} {m' : Map} (hle : LeH ks s.H ks H0) (hks : ∀ k ∈ ks, k < s.H.length) (R1 : Rel (subC C m s.H ks H0 w) m' ⟨1, [(0, r)], H1 ++ ancs 0 H0.length⟩ #[v] w') (hsc : scM r H0 H1 = true) :
    ∃ m2, Rel C m2 { s with H := putM s.H ks (H1.map (Blk.ren (ks ++ List.range' s.H.length (H1.length - ks.length)))) } tmps w' ∧
      AVal (Reads (OK C m2 (putM s.H ks (H1.map (Blk.ren (ks ++ List.range' s.H.length (H1.length - ks.length))))) w') w') m2 (putM s.H ks (H1.map (Blk.ren (ks ++ List.range' s.H.length (H1.length - ks.length))))) (Go.Pv.ren (ks ++ List.range' s.H.length (H1.length - ks.length)) r) v := by
  have g1 := (hle.get).1
  have h := R.joinQ (q := H0.length) hle hks R1 (by
    unfold scM at hsc
    unfold scQ
    rw [Bool.and_eq_true, Bool.and_eq_true, Bool.and_eq_true, Bool.and_eq_true] at hsc
    obtain ⟨⟨⟨⟨s1, s2⟩, s3⟩, s4⟩, s5⟩ := hsc
    rw [s1, s2, s3, s5, List.take_length, s4, List.drop_length]; simp)
  rw [← g1, List.take_length, List.drop_length, kills_nil] at h
  obtain ⟨m2, h1, h2, _⟩ := h
  exact ⟨m2, h1, h2⟩
def argM1 (H : Heap) (ks : List Nat) (x a : AV) : Prop :=
  match a with
  | .p pv => (match peekG H x with | some (p, pv', true) => p ∧ pv' = pv | _ => False)
  | a => x = Go.Pv.ren ks a ∧ scA ks.length a = true
def argsM (H : Heap) (ks : List Nat) : List AV → List AV → Prop
  | x :: xs, a :: avs => argM1 H ks x a ∧ argsM H ks xs avs
  | [], [] => True
  | _, _ => False
theorem argsM_val (R : Rel C m s tmps w) {rd' : PV → Value → Prop} {ks : List Nat} {H0 : Heap} (h1 : ∀ p v, Reads (OK C m s.H w) w p v → rd' p v) (hl : H0.length = ks.length) : ∀ (X avs : List AV) (f : Nat → Value), argsM s.H ks X avs → (∀ i (h : i < X.length), AVal (Reads (OK C m s.H w) w) m s.H X[i] (f i)) →
    avs.length = X.length ∧ ∀ i (h : i < avs.length), AVal rd' (mren m ks) H0 avs[i] (f i)
  | [], [], f, _, _ => ⟨rfl, fun i h => by simp at h⟩
  | x :: xs, a :: avs, f, h, hv => by
    obtain ⟨k1, k2⟩ := argsM_val R h1 hl xs avs (fun i => f (i + 1)) h.2 fun i hi => by have := hv (i + 1) (by simp; omega); rwa [List.getElem_cons_succ] at this
    refine ⟨by simp [k1], fun i hi => ?_⟩
    cases i with
    | succ i => simpa using k2 i (by simpa using hi)
    | zero =>
      have hx := hv 0 (by simp)
      simp only [List.getElem_cons_zero] at hx ⊢
      have h0 := h.1
      unfold argM1 at h0
      split at h0
      · rename_i pv
        split at h0
        · rename_i p pv' hp
          obtain ⟨g1, rfl⟩ := h0
          exact .p _ _ (h1 _ _ ((peekG_val R hx hp g1).2 rfl))
        · exact h0.elim
      · obtain ⟨rfl, hsc⟩ := h0
        exact hx.unren h1 hl hsc
  | [], _ :: _, _, h, _ => h.elim
  | _ :: _, [], _, h, _ => h.elim
theorem call_doesM {o : Oper} {fo : Operand} {args : Array Operand} {ts : Array TypeId} (ho : o.op = .call { callee := .value fo, args := args, argTypes := ts }) {g : FuncId} {cap : List PV} (hfo : s.ev fo = .p (.fn g cap)) {ks : List Nat} {avs : List AV} {H0 H1 : Heap} {r : AV}
    (hc : FnM P g avs H0 r H1) (hargs : argsM s.H ks (args.toList.map s.ev ++ cap.map .p) avs) (hle : LeH ks s.H ks H0) (hnd : ks.Nodup) (hks : ks.all (fun k => decide (k < s.H.length)) = true) (hsc : scM r H0 H1 = true) :
    DoesW P o s (Go.Pv.ren (ks ++ List.range' s.H.length (H1.length - ks.length)) r) (putM s.H ks (H1.map (Blk.ren (ks ++ List.range' s.H.length (H1.length - ks.length))))) := by
  intro C m a w K Q R hK
  have hks' : ∀ k ∈ ks, k < s.H.length := fun k hk => by simpa using (List.all_eq_true.1 hks) k hk
  have hfv := R.ev fo
  rw [hfo] at hfv
  generalize hfe : a.eval fo = fv at hfv
  have hfv := hfv.p_inv
  cases hfv with
  | fn _ _ vs hcl hcr =>
    obtain ⟨⟨fn, hfn, hnm, hbd⟩, hcalls⟩ := hc
    have hrun : (execOp a.eval o).run P w = .ok (.enter g (args.map a.eval ++ vs)) w := by
      have hnm' : ¬ fn.name = "runtime.NumGoroutine" := by simpa using hnm
      have hbd' : ¬ fn.body = none := by intro e; rw [e] at hbd; simp at hbd
      simp [execOp, ho, resolve, hfe, Deferred.ofValue, invoke, callFunc, hfn, hnm', hbd']
    refine opR_of_wp (by first | rfl | (rw [ho]; rfl)) ?_
    unfold Oper.wp
    rw [hrun]
    simp only [Oper.upon]
    obtain ⟨g1, g2⟩ := hle.get
    have ho1 : ∀ b, OK C m s.H w b → OK (subC C m s.H ks H0 w) (mren m ks) H0 w b := by
      refine fun b h => ⟨.inl h, h.2.1, fun k c l hk hl => ?_⟩
      obtain ⟨k', d, a1, a2, _⟩ := LeH.own g2 k c hk
      simp only [mren, a1, Option.bind_some] at hl
      exact h.2.2 k' _ l a2 hl
    obtain ⟨e1, e2⟩ := argsM_val R (rd' := Reads (OK (subC C m s.H ks H0 w) (mren m ks) H0 w) w) (H0 := H0) (fun p v h => h.mono ho1) g1.symm _ avs (fun i => (args.map a.eval ++ vs).getD i undef) hargs fun i hi => by
      simp only [List.length_append, List.length_map, Array.length_toList] at hi
      by_cases hip : i < args.size
      · rw [List.getElem_append_left (by simpa using hip)]
        simp only [Array.getD_eq_getD_getElem?]
        rw [Array.getElem?_append_left (by simpa using hip)]
        have := R.ev args[i]
        simpa [Array.getElem?_eq_getElem hip] using this
      · rw [List.getElem_append_right (by simp; omega)]
        simp only [Array.getD_eq_getD_getElem?]
        rw [Array.getElem?_append_right (by simp; omega)]
        simp only [List.getElem_map, List.length_map, Array.length_toList, Array.size_map]
        have := hcr (i - args.size) (by omega)
        rw [Array.getD_eq_getD_getElem?] at this
        exact .p _ _ this
    have hsz : (args.map a.eval ++ vs).size = avs.length := by
      rw [e1]; simp; omega
    have s5 : H0.all notAnc = true := by
      unfold scM at hsc
      rw [Bool.and_eq_true] at hsc
      exact hsc.2
    have R0 : Rel (subC C m s.H ks H0 w) (mren m ks) ⟨avs.length, entA 0 avs, H0⟩ (args.map a.eval ++ vs) w := by
      refine R.weakenC (s1 := ⟨avs.length, entA 0 avs, H0⟩) hsz hnd hle ho1 (BelowP.refl _ _) (fun b h => .inl h) (fun k b l h hw hl _ => .inr ⟨k, b, l, h, hw, hl, rfl⟩) (fun k i j h => ?_) fun t => ?_
      · exact absurd rfl (notAnc_spec ((List.all_eq_true.1 s5) _ (List.mem_of_getElem? h)) i j)
      · unfold St.get
        simp only
        rw [entA_lk, if_pos (Nat.zero_le _), Nat.sub_zero]
        by_cases ht : t < avs.length
        · have := e2 t ht
          simpa [List.getD, List.getElem?_eq_getElem ht] using this
        · rw [List.getD_eq_getElem?_getD, List.getElem?_eq_none (by omega)]
          exact .dead _
    have R0' := R0.addAnc (n := H0.length) (Nat.le_refl _) fun i _ => rfl
    refine (hcalls _ _ w _ R0').mono fun e w' ⟨v, m', he, R1⟩ => ?_
    subst he
    obtain ⟨m2, R2, hv⟩ := R.joinM hle hks' R1 hsc
    exact hK v m2 w' R2 hv
end
end Go.Pv

namespace Go.Pv
open Go.RowKit
section
variable {P : Program} {T : TypeId → Option TI} {s : St}
theorem runs_at {draw : Bool} {all : Array Oper} {K : St → Prop} (n : Nat) {l : List Oper} (h : Runs P draw all (l.take n) (fun s' => Runs P draw all (l.drop n) K s') s) : Runs P draw all l K s := by
  have gen : ∀ (l1 l2 : List Oper) (s s1 s2 : St), Run1 P draw all l1 s s1 → Run1 P draw all l2 s1 s2 → Run1 P draw all (l1 ++ l2) s s2 := by
    intro l1
    induction l1 with
    | nil => intro l2 s s1 s2 h1 h2; cases h1; exact h2
    | cons o r ih => intro l2 s s1 s2 h1 h2; cases h1 with | cons a b => exact .cons a (ih l2 _ _ _ b h2)
  obtain ⟨s1, h1, s2, h2, hK⟩ := h
  exact ⟨s2, by have := gen _ _ _ _ _ h1 h2; rwa [List.take_append_drop] at this, hK⟩
theorem buildOwn_does (hT : ∀ t ti, T t = some ti → tiOf P t = some ti) {o : Oper} {t : TypeId} {n : Nat} {parts : Array (Nat × Operand)} (ho : o.op = .buildSlice t n parts) {ti te : TI} (ht : T t = some ti) {e : TypeId} (hk : ti.kind = .slice e) (hte : T e = some te) (hsz : te.size = 1) (hzl : te.zero.length = 1)
    {p : Prop} {l : List PV} (hp : partsA 1 0 (parts.toList.map fun q => (q.1, s.ev q.2)) = some (p, l)) (hvc : p) (hl : l.length = n) (hn : n ≤ 16777216) (hone : l.all PV.one = true) : DoesW P o s (.sl s.H.length 0 n) (s.H ++ [.own (opl l)]) := by
  intro C m a w K Q R hK
  have hu := ti_slice (hT _ _ ht) hk
  obtain ⟨i, d, z, h1, h2, h3, h4, h5, h6, h7, h8⟩ := tiOf_parts (hT _ _ hte)
  have key : ∀ z0 : Array Value, ∃ cs', (∀ x ∈ l, x.cells.length = 1) ∧ Instr.fill (fun i => some (i * 1, 1)) ((Array.range (n * 1)).map (z0[· % z0.size]!)) (parts.toList.map fun q => (q.1, a.eval q.2)) = some cs' ∧ cs'.size = n * 1 ∧
      ∀ c (h : c < (flat l).length), Reads (OK C m s.H w) w (flat l)[c] (cs'.getD c undef) := by
    intro z0
    obtain ⟨k1, cs', k2, k3, _, k5⟩ := partsA_run R 1 parts.toList 0 (cs := (Array.range (n * 1)).map (z0[· % z0.size]!)) hp hvc (by simp [hl])
    exact ⟨cs', k1, k2, by rw [k3]; simp, fun c hc => by have := k5 c hc; rwa [Nat.zero_mul, Nat.zero_add] at this⟩
  obtain ⟨cs', k1, k2, k3, k5⟩ := key (if n * 1 = 0 then #[] else z.cells)
  have hss := ti_size (hT _ _ hte) w
  rw [hsz] at hss
  have hfl0 := flat_length_eq 1 l k1
  have hfl : flat l = l := flat_all_one hone
  have hrun : (execOp a.eval o).run P w = .ok (.value (.slice (some ⟨w.heap.size, 0, none⟩) n n)) (w.alloc (.cells cs' e)) := by
    have hpt : (parts.map fun q => (q.1, a.eval q.2)).toList = parts.toList.map fun q => (q.1, a.eval q.2) := by simp
    have hne : ¬ (n * 1 > 2 ^ 24) := by omega
    by_cases hz : n * 1 = 0
    · rw [if_pos hz] at k2
      simp only [execOp, ho, Instr.buildSlice, Sem.run_bind, run_underlying hu, Result.andThen_ok, hss, Sem.run_ite, hz, if_true, Sem.run_pure, newRow] at k2 ⊢
      simp only [hpt, k2, Sem.run_bind, run_newObj, Result.andThen_ok, Sem.run_pure]
      rfl
    · rw [if_neg hz] at k2
      simp only [execOp, ho, Instr.buildSlice, Sem.run_bind, run_underlying hu, Result.andThen_ok, hss, Sem.run_ite, hne, if_false, hz, zeroValue, typeInfo, run_program, h1, h3, Sem.run_pure, newRow] at k2 ⊢
      simp only [hpt, k2, Sem.run_bind, run_newObj, Result.andThen_ok, Sem.run_pure]
      rfl
  have hrel := R.newBlk (below_alloc _) (cur := cs') (e := e) (heap_alloc_new w _) (le_mxl (by rw [k3]; unfold maxLen; omega)) (c := opl l) (by rw [opl_length, k3]; omega) (by
    intro j hj
    rw [opl_length] at hj
    have := k5 j (by rw [hfl]; exact hj)
    simp only [hfl] at this
    simp only [opl, List.getElem_map]
    exact .p _ _ this)
  refine opR_of_wp (by first | rfl | (rw [ho]; rfl)) ?_
  unfold Oper.wp
  rw [hrun]
  exact hK _ _ _ hrel (.sl _ _ _ _ (by simp) <| .inr ⟨⟨w.heap.size, 0, cs'.size⟩, n, by simp [mput], by simp, Nat.le_refl _, by simp only; omega⟩)
theorem insert_does (hT : ∀ t ti, T t = some ti → tiOf P t = some ti) {o : Oper} {t : TypeId} {x y z : Operand} (ho : o.op = .insert t x y z) {ti : TI} (ht : T t = some ti) {r : OV} (h : mapUpdateA T ti s.H (s.ev x) (s.ev y) (s.ev z) = some r) (hvc : r.vc) : DoesW P o s r.av r.H := by
  intro C m a w K Q R hK
  obtain ⟨v, w', m', hy, R', hv⟩ := mapUpdateA_does hT R (o := { o with op := .mapUpdate t x y z }) rfl ht h hvc
  have := hK v m' w' R' hv
  have e : execOp a.eval o = execOp a.eval { o with op := .mapUpdate t x y z } := by
    simp only [execOp, ho]
  rcases hy with hr | ⟨hr, rfl⟩
  · refine opR_of_wp (by first | rfl | (rw [ho]; rfl)) ?_; unfold Oper.wp; rw [e, hr]; exact this
  · refine opR_of_wp (by first | rfl | (rw [ho]; rfl)) ?_; unfold Oper.wp; rw [e, hr]; exact this
section
variable {C : Ctx} {m : Map} {tmps : Array Value} {w : World}
end
end
end Go.Pv

namespace Go.Pv
open Go.RowKit
section
variable {P : Program} {T : TypeId → Option TI} {s : St}
theorem flat_cells {l : List PV} (h : ∀ x ∈ l, x.cells.all PV.one = true) : (flat l).all PV.one = true := by
  induction l with
  | nil => rfl
  | cons x r ih =>
    simp only [flat, List.all_append, Bool.and_eq_true]
    exact ⟨h x (by simp), ih fun y hy => h y (by simp [hy])⟩
theorem buildS_does (hT : ∀ t ti, T t = some ti → tiOf P t = some ti) {o : Oper} {t : TypeId} {n : Nat} {parts : Array (Nat × Operand)} (ho : o.op = .buildSlice t n parts) {ti te : TI} (ht : T t = some ti) {e : TypeId} (hk : ti.kind = .slice e) (hte : T e = some te) {sz : Nat} (hsz : te.size = sz) (hzl : te.zero.length = sz)
    {p : Prop} {l : List PV} (hp : partsA sz 0 (parts.toList.map fun q => (q.1, s.ev q.2)) = some (p, l)) (hvc : p) (hl : l.length = n) (hn : n * sz ≤ 16777216) : DoesW P o s (.sls s.H.length 0 n sz) (s.H ++ [.own (opl (flat l))]) := by
  intro C m a w K Q R hK
  have hu := ti_slice (hT _ _ ht) hk
  obtain ⟨i, d, z, h1, h2, h3, h4, h5, h6, h7, h8⟩ := tiOf_parts (hT _ _ hte)
  have key : ∀ z0 : Array Value, ∃ cs', (∀ x ∈ l, x.cells.length = sz) ∧ Instr.fill (fun i => some (i * sz, sz)) ((Array.range (n * sz)).map (z0[· % z0.size]!)) (parts.toList.map fun q => (q.1, a.eval q.2)) = some cs' ∧ cs'.size = n * sz ∧
      ∀ c (h : c < (flat l).length), Reads (OK C m s.H w) w (flat l)[c] (cs'.getD c undef) := by
    intro z0
    obtain ⟨k1, cs', k2, k3, _, k5⟩ := partsA_run R sz parts.toList 0 (cs := (Array.range (n * sz)).map (z0[· % z0.size]!)) hp hvc (by simp [hl])
    exact ⟨cs', k1, k2, by rw [k3]; simp, fun c hc => by have := k5 c hc; rwa [Nat.zero_mul, Nat.zero_add] at this⟩
  obtain ⟨cs', k1, k2, k3, k5⟩ := key (if n * sz = 0 then #[] else z.cells)
  have hss := ti_size (hT _ _ hte) w
  rw [hsz] at hss
  have hfl0 := flat_length_eq sz l k1
  have hrun : (execOp a.eval o).run P w = .ok (.value (.slice (some ⟨w.heap.size, 0, none⟩) n n)) (w.alloc (.cells cs' e)) := by
    have hpt : (parts.map fun q => (q.1, a.eval q.2)).toList = parts.toList.map fun q => (q.1, a.eval q.2) := by simp
    have hne : ¬ (n * sz > 2 ^ 24) := by omega
    by_cases hz : n * sz = 0
    · rw [if_pos hz] at k2
      simp only [execOp, ho, Instr.buildSlice, Sem.run_bind, run_underlying hu, Result.andThen_ok, hss, Sem.run_ite, hz, if_true, Sem.run_pure, newRow] at k2 ⊢
      simp only [hpt, k2, Sem.run_bind, run_newObj, Result.andThen_ok, Sem.run_pure]
      rfl
    · rw [if_neg hz] at k2
      simp only [execOp, ho, Instr.buildSlice, Sem.run_bind, run_underlying hu, Result.andThen_ok, hss, Sem.run_ite, hne, if_false, hz, zeroValue, typeInfo, run_program, h1, h3, Sem.run_pure, newRow] at k2 ⊢
      simp only [hpt, k2, Sem.run_bind, run_newObj, Result.andThen_ok, Sem.run_pure]
      rfl
  have hlen : (opl (flat l)).length = n * sz := by rw [opl_length, hfl0, hl]
  have hrel := R.newBlk (below_alloc _) (cur := cs') (e := e) (heap_alloc_new w _) (le_mxl (by rw [k3]; unfold maxLen; omega)) (c := opl (flat l)) (by rw [hlen, k3]; exact Nat.le_refl _) (by
    intro j hj
    rw [hlen] at hj
    have hj2 : j < (flat l).length := by rw [hfl0, hl]; exact hj
    have := k5 j hj2
    simp only [opl, List.getElem_map]
    exact .p _ _ this)
  refine opR_of_wp (by first | rfl | (rw [ho]; rfl)) ?_
  unfold Oper.wp
  rw [hrun]
  exact hK _ _ _ hrel (.sls _ _ _ _ _ (by simp) (.inr ⟨⟨w.heap.size, 0, cs'.size⟩, n, by simp [mput], by simp, Nat.le_refl _, by simp only; omega⟩))
theorem lenS_does (hT : ∀ t ti, T t = some ti → tiOf P t = some ti) {o : Oper} {t : TypeId} {x : Operand} (ho : o.op = .call { callee := .builtin .len, args := #[x], argTypes := #[t] }) {ti : TI} (ht : T t = some ti) {e : TypeId} (hk : ti.kind = .slice e) {k lo len sz : Nat} (hx : s.ev x = .sls k lo len sz) : DoesW P o s (.p (.int .i64 len)) s.H := by
  intro C m a w K Q R hK
  have hu := ti_slice (hT _ _ ht) hk
  have hv := R.ev x
  rw [hx] at hv
  generalize hev : a.eval x = v at hv
  cases hv with
  | sls _ _ _ _ _ hk' hs =>
    have hrun : (execOp a.eval o).run P w = .ok (.value (.int .i64 len)) w := by
      obtain ⟨dst, op, type, pos, after, guard⟩ := o
      simp only at ho
      subst ho
      rcases hs with ⟨rfl, rfl⟩ | ⟨l, cap, hm, rfl, h1, h2⟩
      · simp [BigFrame.execOp_builtin, BigFrame.builtin_len, Builtin.len_, hev, run_underlying hu, goInt]
      · simp [BigFrame.execOp_builtin, BigFrame.builtin_len, Builtin.len_, hev, run_underlying hu, goInt]
    refine opR_of_wp (by first | rfl | (rw [ho]; rfl)) ?_
    unfold Oper.wp
    rw [hrun]
    exact hK _ _ _ R (.p _ _ (.int _ _))
theorem idxS_does (hT : ∀ t ti, T t = some ti → tiOf P t = some ti) {o : Oper} {t : TypeId} {x y : Operand} (ho : o.op = .indexAddr t x y) {ti te : TI} (ht : T t = some ti) {e : TypeId} (hk : ti.kind = .slice e) (hte : T e = some te) {sz : Nat} (hsz : te.size = sz) {k lo len : Nat} (hx : s.ev x = .sls k lo len sz)
    {kk : IntKind} {i : Int} (hy : s.ev y = .p (.int kk i)) (h0 : 0 ≤ i) (h1 : i < (len : Int)) : DoesW P o s (.ptr k (lo + i.toNat * sz)) s.H := by
  intro C m a w K Q R hK
  have hu := ti_slice (hT _ _ ht) hk
  have hss := ti_size (hT _ _ hte) w
  have hey := eval_int R hy
  have hv := R.ev x
  rw [hx] at hv
  generalize hev : a.eval x = v at hv
  cases hv with
  | sls _ _ _ _ _ hk' hs =>
    obtain ⟨l, cap, hm, rfl, h2, h3⟩ := hs.resolve_left fun h => by omega
    have hrun : (execOp a.eval o).run P w = .ok (.value (.pointer (some ⟨l.g, l.o + lo + i.toNat * sz, none⟩))) w := by
      simp [execOp, ho, hev, hey, Instr.indexAt, asIntOf, run_underlying hu, h0, h1, hss, hsz, add_lit]
    refine opR_of_wp (by first | rfl | (rw [ho]; rfl)) ?_
    unfold Oper.wp
    rw [hrun]
    exact hK _ _ _ R (.ptr _ _ _ hk' ⟨l, hm, by rw [Nat.add_assoc]⟩)
theorem cutS_does (hT : ∀ t ti, T t = some ti → tiOf P t = some ti) {o : Oper} {t : TypeId} {x y : Operand} (ho : o.op = .slice t x none (some y) none) {ti te : TI} (ht : T t = some ti) {e : TypeId} (hk : ti.kind = .slice e) (hte : T e = some te) {sz : Nat} (hsz : te.size = sz) {k lo len : Nat} (hx : s.ev x = .sls k lo len sz)
    {kk : IntKind} {i : Int} (hy : s.ev y = .p (.int kk i)) (h0 : 0 ≤ i) (h1 : i ≤ (len : Int)) (hp : 0 < len) : DoesW P o s (.sls k lo i.toNat sz) s.H := by
  intro C m a w K Q R hK
  have hu := ti_slice (hT _ _ ht) hk
  have hss := ti_size (hT _ _ hte) w
  have hv := R.ev x
  rw [hx] at hv
  generalize hev : a.eval x = v at hv
  cases hv with
  | sls _ _ _ _ _ hk' hs =>
    obtain ⟨l, cap, hm, rfl, h2, h3⟩ := hs.resolve_left fun h => by omega
    have hbd := bound_run (P := P) (len := len) (cap := cap) (lo := none) (hi := some y) R (p := 0) (q := i) rfl (by simp [boundA, hy]) (Int.le_refl _) h0 h1 h2
    have hrun : (execOp a.eval o).run P w = .ok (.value (.slice (some ⟨l.g, l.o + lo, none⟩) i.toNat cap)) w := by
      simp only [Option.map_none, Option.map_some] at hbd
      simp [execOp, ho, hev, Instr.sliceAt, Instr.slice, run_underlying hu, hbd, hss, add_lit]
    refine opR_of_wp (by first | rfl | (rw [ho]; rfl)) ?_
    unfold Oper.wp
    rw [hrun]
    exact hK _ _ _ R (.sls _ _ _ _ _ hk' (.inr ⟨l, cap, hm, rfl, by omega, h3⟩))
theorem append_roomS {w : World} {t e : TypeId} {i : TypeInfo} (ty : TypeId) (ht : P.underlying t = some (.slice e)) (hi : P.info? e = some i) {sz : Nat} (hsz : i.size = sz) {g q n cap k : Nat} {cur : Array Value} {e' : TypeId} (hg : w.heap[g]? = some (.cells cur e' (0, 0)))
    {b : Addr} {cx : Nat} {news : List Value} (hl : news.length = k * sz) (hx : ∀ j u, news[j]? = some u → w.cell? (b.add j) = some u) (h1 : ∀ u ∈ news, u.oneCell' = true) (hroom : n + k ≤ cap) (hfit : q + n * sz + k * sz ≤ cur.size) :
    (Builtin.append_ #[t, t] ty #[.slice (some ⟨g, q, none⟩) n cap, .slice (some b) k cx]).run P w =
      .ok (.slice (some ⟨g, q, none⟩) (n + k) cap) (w.setRow g (cur.toList.take (q + n * sz) ++ news ++ cur.toList.drop (q + n * sz + news.length)).toArray) := by
  have hf := run_firstCells_some (P := P) w sz k b k cx news hl hx
  have hst := run_storeCells_at P g (q + n * sz) e' news 0 cur w hg (by omega) h1
  simp only [Nat.add_zero] at hst
  simp [Builtin.append_, run_underlying ht, sizeOf, typeInfo, hi, hsz, Builtin.lenOf, hroom, hf, Addr.add_lit, hst]
theorem appS_does (hT : ∀ t ti, T t = some ti → tiOf P t = some ti) {o : Oper} {t : TypeId} {x y : Operand} (ho : o.op = .call { callee := .builtin .append, args := #[x, y], argTypes := #[t, t] }) {ti te : TI} (ht : T t = some ti) {e : TypeId} (hk : ti.kind = .slice e) (hte : T e = some te) {sz : Nat} (hsz : te.size = sz) (hzl : te.zero.length = sz) (h0 : 0 < sz) (h64 : sz ≤ 64)
    {k lo len : Nat} {c : List AV} {l : List PV} (hx : s.ev x = .sls k lo len sz) (hg : hget s.H k = .own c) (hy : s.ev y = .p (.nn l)) (hls : ∀ x ∈ l, x.cells.length = sz) (hone : ∀ x ∈ l, x.cells.all PV.one = true) (hl0 : 0 < l.length) (hc : lo + len * sz ≤ c.length) (hok : ((c.drop lo).take (len * sz)).all cellOk = true)
    (hb : (len + l.length) * te.bytes ≤ 140737488355328) (hbig : (len + l.length) * sz ≤ 1000000000000) (h63 : len + l.length ≤ 1000000000000) : DoesW P o s (.sls s.H.length 0 (len + l.length) sz) (hset s.H k .dead ++ [.own ((c.drop lo).take (len * sz) ++ opl (flat l))]) := by
  intro C m a w K Q R hK
  have hu := ti_slice (hT _ _ ht) hk
  obtain ⟨i, d, z, h1, h2, h3, h4, h5, h6, h7, h8⟩ := tiOf_parts (hT _ _ hte)
  have hi : i.size = sz := by rw [h4, hsz]
  have hz1 : z.cells.size = sz := by rw [← Array.length_toList, h6]; exact hzl
  have hkH := hget_mut hg
  have hflen := flat_length_eq sz l hls
  have hfone := flat_cells hone
  have hX := R.ev x
  have hY := R.ev y
  rw [hx] at hX
  rw [hy] at hY
  generalize hvx : a.eval x = vx at hX
  generalize hvy : a.eval y = vy at hY
  have hlen : ((c.drop lo).take (len * sz)).length = len * sz := by simp only [List.length_take, List.length_drop]; omega
  rcases hY.p_inv.nn_inv with ⟨rfl, _⟩ | ⟨b, off, sz', vs, rfl, hbo, hsz', hcy, hry⟩
  · simp at hl0
  have hnl : ((List.range (l.length * sz)).map vs).length = l.length * sz := by simp
  have hng : ∀ j, j < l.length * sz → ((List.range (l.length * sz)).map vs).getD j undef = vs j := fun j hj => by simp [List.getD, List.getElem?_map, List.getElem?_range hj]
  have hnx : ∀ j u, ((List.range (l.length * sz)).map vs)[j]? = some u → w.cell? ((⟨b, off, none⟩ : Addr).add j) = some u := fun j u hj => by
    have hjl : j < l.length * sz := by have := (List.getElem?_eq_some_iff.1 hj).1; simpa using this
    simp only [List.getElem?_map, List.getElem?_range hjl, Option.map_some, Option.some.injEq] at hj
    subst hj
    rw [add_lit]; exact hcy j (by rw [hflen]; exact hjl)
  have hnv : ∀ j (hj : j < (opl (flat l)).length), AVal (Reads (OK C m s.H w) w) m s.H (opl (flat l))[j] (((List.range (l.length * sz)).map vs).getD j undef) := fun j hj => by
    rw [opl_length, hflen] at hj
    rw [hng j hj]
    simp only [opl, List.getElem_map]
    exact .p _ _ (hry j (by rw [hflen]; exact hj))
  have hone1 : ∀ u ∈ (List.range (l.length * sz)).map vs, u.oneCell' = true := fun u hu => by
    obtain ⟨j, hj, rfl⟩ := List.getElem_of_mem hu
    have hj2 : j < l.length * sz := by simpa using hj
    have h1 := hnv j (by rw [opl_length, hflen]; exact hj2)
    have h2 : cellOk ((opl (flat l))[j]'(by rw [opl_length, hflen]; exact hj2)) = true := by
      simp only [opl, List.getElem_map, cellOk]
      exact (List.all_eq_true.1 hfone) _ (List.getElem_mem _)
    have e : ((List.range (l.length * sz)).map vs).getD j undef = ((List.range (l.length * sz)).map vs)[j] := by simp [List.getD, List.getElem?_eq_getElem hj]
    rw [e] at h1
    exact (cellOk_one h2 h1).1
  have yield : ∀ v w', (Builtin.append_ #[t, t] o.type #[a.eval x, a.eval y]).run P w = .ok v w' → (execOp a.eval o).run P w = .ok (.value v) w' := by
    intro v w' hr
    obtain ⟨dst, op, type, pos, after, guard⟩ := o
    simp only at ho hr
    subst ho
    simp [BigFrame.execOp_builtin, BigFrame.builtin_append, hr]
  cases hX with
  | sls _ _ _ _ _ hk' hs =>
    rcases hs with ⟨rfl, rfl⟩ | ⟨l0, cap, hm, rfl, hc1, hc2⟩
    · have hr := run_append_nil (P := P) (w := w) t o.type e i z hu h1 h3 ⟨b, off, none⟩ l.length l.length _ (by rw [hnl, hi]) hnx hl0 (by omega) (by rw [h5]; rw [Nat.zero_add] at hb; omega)
      rw [hvx, hvy] at yield
      generalize hnews : (List.range (l.length * sz)).map vs = news at hr hnl hnv
      have hge := grownCap_ge w l.length 0 e
      have hle := grownCap_le_maxLen w l.length 0 e (by unfold maxLen; omega)
      obtain ⟨G, hG⟩ : ∃ G, grownCap w l.length 0 e = G := ⟨_, rfl⟩
      rw [hG] at hr hge hle
      have hGm : l.length * sz ≤ G * sz := Nat.mul_le_mul_right _ (by omega)
      have hcs : (news.toArray ++ Builtin.zeroCells z.cells (G - l.length)).size = G * sz := by
        simp only [Array.size_append, List.size_toArray, size_zeroCells, hz1, hnl, Nat.sub_mul]; omega
      refine opR_of_wp (by first | rfl | (rw [ho]; rfl)) ?_
      unfold Oper.wp
      rw [yield _ _ hr]
      refine hK _ _ _ (R.moveBlk hkH (l' := ⟨w.heap.size, 0, G * sz⟩) ((below_drew_alloc _).toP R.base) (fun b hb _ => (below_drew_alloc _).block b hb) (.inr (Nat.le_refl _)) (e := e) (heap_alloc_new w.drew _) hcs ?_ ?_ ?_)
        (.sls _ _ _ _ _ (by simp [hset_length]) (.inr ⟨⟨w.heap.size, 0, G * sz⟩, G, by simp [mput], by simp, by omega, by simp⟩))
      · have : G * sz ≤ 9223372036854775807 * 64 := Nat.mul_le_mul hle h64
        unfold mxl; simp only; omega
      · simp only [List.length_append, hlen, opl_length, hflen]; omega
      · intro j hj
        simp only [List.length_append, hlen, opl_length, hflen] at hj
        simp only [Nat.zero_add]
        have eg : (news.toArray ++ Builtin.zeroCells z.cells (G - l.length)).getD j undef = news.getD j undef := by
          have := getD_new (xs := []) (ys := news) (zs := (Builtin.zeroCells z.cells (G - l.length)).toList) (j := j) (by simp only [List.length_nil]; omega)
          rw [Array.toArray_toList] at this
          simpa using this
        rw [eg, List.getElem_append_right (by omega)]
        have key : ∀ k (hk : k < (opl (flat l)).length), k = j → AVal (Reads (OK C m s.H w) w) m s.H (opl (flat l))[k] (news.getD j undef) := fun k hk e => by
          subst e; exact hnv _ hk
        simp only [hlen]
        exact key _ _ (by omega)
    rcases R.blk k c hkH with ⟨_, hn⟩ | ⟨l', cur, e', hm2, hB, hh, hs1, hs3, hs2, hcells⟩
    · rw [hm] at hn; cases hn
    rw [hm] at hm2; cases hm2
    by_cases hroom : len + l.length ≤ cap
    · have hmul : (len + l.length) * sz ≤ cap * sz := Nat.mul_le_mul_right _ hroom
      rw [Nat.add_mul] at hmul
      have hr := append_roomS (P := P) (w := w) o.type hu h1 hi hh (n := len) (cap := cap) (q := l0.o + lo) (cx := l.length) hnl hnx hone1 hroom (by omega)
      rw [hvx, hvy] at yield
      have hcsz : (cur.toList.take (l0.o + lo + len * sz) ++ (List.range (l.length * sz)).map vs ++ cur.toList.drop (l0.o + lo + len * sz + ((List.range (l.length * sz)).map vs).length)).toArray.size = l0.n := by
        simp only [List.size_toArray, List.length_append, List.length_take, List.length_drop, Array.length_toList, hnl]; omega
      refine opR_of_wp (by first | rfl | (rw [ho]; rfl)) ?_
      unfold Oper.wp
      rw [yield _ _ hr]
      refine hK _ _ _ (R.moveBlk hkH (l' := ⟨l0.g, l0.o + lo, l0.n⟩) ?_ (fun b hb hne => setRow_other w l0.g b _ (hne l0 hm)) (.inl ⟨l0, hm, rfl⟩) (setRow_heap w l0.g cur _ e' _ hh) hcsz hs3 ?_ ?_)
        (.sls _ _ _ _ _ (by simp [hset_length]) (.inr ⟨⟨l0.g, l0.o + lo, l0.n⟩, cap, by simp [mput], rfl, by omega, by simp only; omega⟩))
      · exact ⟨rfl, rfl, rfl, by simp [World.setRow], fun b hb => setRow_other w l0.g b _ (fun e => hb (by rw [e]; exact hB)), Nat.le_refl _⟩
      · simp only [List.length_append, hlen, opl_length, hflen]; omega
      · intro j hj
        simp only [List.length_append, hlen, opl_length, hflen] at hj
        dsimp only
        rw [stored_getD (by rw [hnl, hs1]; omega)]
        by_cases hjl : j < len * sz
        · rw [if_neg (by omega), List.getElem_append_left (by omega)]
          simp only [List.getElem_take, List.getElem_drop]
          have := hcells (lo + j) (by omega)
          rwa [← Nat.add_assoc] at this
        · rw [if_pos (by rw [hnl]; omega), List.getElem_append_right (by omega)]
          have := hnv (j - len * sz) (by rw [opl_length, hflen]; omega)
          simp only [hlen]
          rwa [show l0.o + lo + j - (l0.o + lo + len * sz) = j - len * sz by omega]
    · have hol : ((List.range (len * sz)).map fun j => cur.getD (l0.o + lo + j) undef).length = len * sz := by simp
      have hox : ∀ j u, ((List.range (len * sz)).map fun j => cur.getD (l0.o + lo + j) undef)[j]? = some u → w.cell? ((⟨l0.g, l0.o + lo, none⟩ : Addr).add j) = some u := fun j u hj => by
        have hjl : j < len * sz := by have := (List.getElem?_eq_some_iff.1 hj).1; simpa using this
        simp only [List.getElem?_map, List.getElem?_range hjl, Option.map_some, Option.some.injEq] at hj
        subst hj
        rw [add_lit]; exact cell_of hh (by omega)
      have hr := run_append_grow (P := P) w t o.type e i z hu h1 h3 ⟨l0.g, l0.o + lo, none⟩ len cap _ (by rw [hol, hi]) hox ⟨b, off, none⟩ l.length l.length _ (by rw [hnl, hi]) hnx (by omega) (by omega) (growslice_fits (by omega) (by rw [h5]; exact hb))
      rw [hvx, hvy] at yield
      generalize holds : (List.range (len * sz)).map (fun j => cur.getD (l0.o + lo + j) undef) = olds at hr hol
      generalize hnews : (List.range (l.length * sz)).map vs = news at hr hnl hnv
      have hge := grownCap_ge w (len + l.length) cap e
      have hle := grownCap_le_maxLen w (len + l.length) cap e (by unfold maxLen; omega)
      obtain ⟨G, hG⟩ : ∃ G, grownCap w (len + l.length) cap e = G := ⟨_, rfl⟩
      rw [hG] at hr hge hle
      have hGm : (len + l.length) * sz ≤ G * sz := Nat.mul_le_mul_right _ (by omega)
      rw [Nat.add_mul] at hGm
      have hcs : (olds.toArray ++ news.toArray ++ Builtin.zeroCells z.cells (G - (len + l.length))).size = G * sz := by
        simp only [Array.size_append, List.size_toArray, size_zeroCells, hz1, hol, hnl, Nat.sub_mul, Nat.add_mul]; omega
      refine opR_of_wp (by first | rfl | (rw [ho]; rfl)) ?_
      unfold Oper.wp
      rw [yield _ _ hr]
      refine hK _ _ _ (R.moveBlk hkH (l' := ⟨w.heap.size, 0, G * sz⟩) ((below_drew_alloc _).toP R.base) (fun b hb _ => (below_drew_alloc _).block b hb) (.inr (Nat.le_refl _)) (e := e) (heap_alloc_new w.drew _) hcs ?_ ?_ ?_)
        (.sls _ _ _ _ _ (by simp [hset_length]) (.inr ⟨⟨w.heap.size, 0, G * sz⟩, G, by simp [mput], rfl, by omega, by simp⟩))
      · have : G * sz ≤ 9223372036854775807 * 64 := Nat.mul_le_mul hle h64
        unfold mxl; simp only; omega
      · simp only [List.length_append, hlen, opl_length, hflen]; omega
      · intro j hj
        simp only [List.length_append, hlen, opl_length, hflen] at hj
        simp only [Nat.zero_add]
        have eg : (olds.toArray ++ news.toArray ++ Builtin.zeroCells z.cells (G - (len + l.length))).getD j undef = if j < olds.length then olds.getD j undef else news.getD (j - olds.length) undef := by
          have := getD_new (xs := olds) (ys := news) (zs := (Builtin.zeroCells z.cells (G - (len + l.length))).toList) (j := j) (by omega)
          rwa [Array.toArray_toList] at this
        rw [eg]
        by_cases hjl : j < len * sz
        · rw [if_pos (by omega), List.getElem_append_left (by omega)]
          simp only [List.getElem_take, List.getElem_drop]
          have h9 := hcells (lo + j) (by omega)
          have : olds.getD j undef = cur.getD (l0.o + lo + j) undef := by
            rw [← holds]
            simp [List.getD, List.getElem?_map, List.getElem?_range hjl]
          rw [this]
          rwa [← Nat.add_assoc] at h9
        · rw [if_neg (by omega), List.getElem_append_right (by omega)]
          have := hnv (j - len * sz) (by rw [opl_length, hflen]; omega)
          simp only [hlen, hol]
          exact this
end
end Go.Pv

namespace Go.Pv
open Go.RowKit
section
variable {P : Program} {C : Ctx} {m : Map} {s : St} {tmps : Array Value} {w : World}
def holdC (C : Ctx) (X : Nat → Prop) (w : World) : Ctx := ⟨fun b => C.okA b ∨ C.B b, fun b => C.B b ∧ ¬ X b, w, C.anc⟩
theorem holdC_ok (C : Ctx) (X : Nat → Prop) (w0 : World) (m : Map) (H : Heap) (w : World) : OK (holdC C X w0) m H w = OK C m H w := by
  funext b
  unfold OK holdC
  refine propext ⟨fun h => ⟨?_, h.2⟩, fun h => ⟨.inl h.1, h.2⟩⟩
  rcases h.1 with h1 | h1
  · exact h1
  · exact .inr h1.1
theorem Rel.hold (R : Rel C m s tmps w) (X : Nat → Prop) (hX : ∀ b, X b → b < w.heap.size ∧ ∀ cur e sh, w.heap[b]? ≠ some (.cells cur e sh))
    (hmp : ∀ (k : Nat) (kk : IntKind) (d : Int → Bool) (v : Int → PV) (l : Loc), s.H[k]? = some (Blk.mp kk d v) → m k = some l → ¬ X l.g) (hlp : ∀ b, X b → ∀ rr, w.heap[b]? ≠ some (.loop rr)) : Rel (holdC C X w) m s tmps w := by
  have e := holdC_ok C X w m s.H w
  refine ⟨by rw [e]; exact R.laid, BelowP.refl _ _, fun b hb => ⟨R.base b hb, fun hx => by have := (hX b hx).1; omega⟩, R.size, R.inj, fun k c h => ?_, by rw [e]; exact R.fro, by rw [e]; exact R.slot, fun k kk d v h => ?_, R.mp.2.1, R.mp.2.2.1, fun k rr h => (let ⟨l, a1, a2, a3⟩ := R.mp.2.2.2.1 k rr h; ⟨l, a1, ⟨a2, fun hx => hlp _ hx _ a3⟩, a3⟩), R.mp.2.2.2.2⟩
  · rw [e]
    rcases R.blk k c h with h1 | ⟨l, cur, ee, a1, a2, a3, a4⟩
    · exact .inl h1
    · exact .inr ⟨l, cur, ee, a1, ⟨a2, fun hx => (hX _ hx).2 _ _ _ a3⟩, a3, a4⟩
  · rw [e]
    obtain ⟨l, ar, clk, vs, a1, a2, a3⟩ := R.mp.1 k kk d v h
    exact ⟨l, ar, clk, vs, a1, ⟨a2, hmp k kk d v l h a1⟩, a3⟩
end
end Go.Pv

namespace Go.Pv
open Go.RowKit
theorem LeH_congr {π : List Nat} {H H2 : Heap} : ∀ {ks : List Nat} {H1 : Heap}, (∀ k ∈ ks, hget H2 k = hget H k) → LeH π H ks H1 → LeH π H2 ks H1
  | [], [], _, _ => trivial
  | [], _ :: _, _, h => h.elim
  | _ :: _, [], _, h => h.elim
  | k :: ks, b :: r, he, h => by
    refine ⟨?_, LeH_congr (fun j hj => he j (by simp [hj])) h.2⟩
    have h1 := h.1
    have e := he k (by simp)
    cases b <;> simp only [LeB, e] at h1 ⊢ <;> exact h1
def argN1 (ks : List Nat) (x a : AV) : Prop :=
  match a with
  | .p pv => x = .p pv
  | a => x = Go.Pv.ren ks a ∧ scA ks.length a = true
def argsN (ks : List Nat) : List AV → List AV → Prop
  | x :: xs, a :: avs => argN1 ks x a ∧ argsN ks xs avs
  | [], [] => True
  | _, _ => False
theorem argsN_M {H : Heap} {ks : List Nat} : ∀ {X avs : List AV}, argsN ks X avs → argsM H ks X avs
  | [], [], _ => trivial
  | [], _ :: _, h => h.elim
  | _ :: _, [], h => h.elim
  | x :: xs, a :: avs, h => by
    refine ⟨?_, argsN_M h.2⟩
    have h1 := h.1
    cases a with
    | p pv =>
      simp only [argN1] at h1
      subst h1
      simp only [argM1, peekG, peekS, and_self]
    | _ => simp only [argN1] at h1; simp only [argM1]; exact h1
theorem putM_zip : ∀ (ks : List Nat) (bs H : Heap), ks.Nodup → ks.length = bs.length → putM H ks bs = setL H (ks.zip bs)
  | [], [], H, _, _ => by simp [putM, setL]
  | [], _ :: _, H, _, h => by simp at h
  | _ :: _, [], H, _, h => by simp at h
  | k :: ks, b :: bs, H, hn, hl => by
    rw [List.nodup_cons] at hn
    simp only [putM, List.zip_cons_cons, setL]
    rw [putM_zip ks bs _ hn.2 (by simpa using hl)]
    have hno : ((ks.zip bs).any fun p => p.1 == k) = false := by
      rw [List.any_eq_false]
      intro p hp e
      have e : p.1 = k := by simpa using e
      exact hn.1 (e ▸ (List.of_mem_zip hp).1)
    refine hget_ext (by rw [setL_length, hset_length, hset_length, setL_length]) fun j => ?_
    rw [setL_hget, hset_length, hset_hget, hset_hget, setL_length, setL_hget]
    by_cases h : j = k
    · subst h
      rw [hno, if_neg (fun hh => by cases hh.1)]
      by_cases h2 : j < H.length
      · rw [if_pos ⟨rfl, h2⟩, if_pos ⟨rfl, h2⟩]
      · rw [if_neg (fun hh => h2 hh.2), if_neg (fun hh => h2 hh.2), if_neg (fun hh => by cases hh.1)]
    · rw [if_neg (show ¬ (j = k ∧ k < H.length) from fun hh => h hh.1), if_neg (show ¬ (j = k ∧ k < H.length) from fun hh => h hh.1)]
section
variable {P : Program} {s : St}
theorem runs2_callM {all : Array Oper} {rest : List Oper} {K : St → List I2 → Prop} {acc : List I2} {dst : Option Tmp} {ty : TypeId} {pos : String} {aft : Array Edge} {gd : Option (Nat × Bool)} {fo : Operand} {args : Array Operand} {ts : Array TypeId} {g : FuncId} {avs : List AV} {H0 H1 : Heap} {r : AV} (ks : List Nat)
    (hc : FnM P g avs H0 r H1) (hlen : ks.length = H1.length) {cap : List PV} (hfo : s.ev fo = .p (.fn g cap)) (hg : guardA all s { dst := dst, op := .call { callee := .value fo, args := args, argTypes := ts }, type := ty, pos := pos, after := aft, guard := gd } = some true)
    (hargs : argsN ks (args.toList.map s.ev ++ cap.map .p) avs) (hle : LeH ks s.H ks H0) (hnd : ks.Nodup) (hks : ∀ k ∈ ks, k < s.H.length) (hsc : scM r H0 H1 = true) (hd : dstOk s dst)
    (h : Runs2 P all rest K (({ s with H := setL s.H (ks.zip (H1.map (Blk.ren ks))) } : St).put dst (Go.Pv.ren ks r)) (acc ++ [⟨.ms (ks.zip (H1.map (Blk.ren ks))), Go.Pv.ren ks r, .dead, false⟩])) :
    Runs2 P all ({ dst := dst, op := .call { callee := .value fo, args := args, argTypes := ts }, type := ty, pos := pos, after := aft, guard := gd } :: rest) K s acc := by
  obtain ⟨s', xs, hr, hK⟩ := h
  have hz : ∀ p ∈ ks.zip (H1.map (Blk.ren ks)), p.1 ∈ ks ∧ p.2 ∈ H1.map (Blk.ren ks) := fun p hp => List.of_mem_zip hp
  refine ⟨s', ⟨.ms (ks.zip (H1.map (Blk.ren ks))), Go.Pv.ren ks r, .dead, false⟩ :: xs, .op hg (dstOk_spec hd) ⟨⟨fun p hp => hks _ (hz p hp).1, fun p hp i j e => ?_⟩, ?_⟩ (fun h => by cases h) hr, by rw [List.append_assoc] at hK; exact hK⟩
  · obtain ⟨b, hb, e2⟩ := List.mem_map.1 (hz p hp).2
    unfold scM at hsc
    simp only [Bool.and_eq_true] at hsc
    have := (List.all_eq_true.1 hsc.1.1.1.2) b hb
    rw [e] at e2
    cases b <;> simp [Blk.ren] at e2 this
  · intro s2 hn ha hH
    simp only [Agree, Op.operands, Call.operands] at ha
    have h1 : s2.ev fo = .p (.fn g cap) := (ha fo (by simp)).trans hfo
    have h2 : args.toList.map s2.ev = args.toList.map s.ev := List.map_congr_left fun x hx => ha x (by simp; right; simpa using hx)
    have hHl : ∀ k ∈ ks, k < s2.H.length ∧ hget s2.H k = hget s.H k := fun k hk => by
      obtain ⟨i, hi, e⟩ := List.getElem_of_mem hk
      have hi2 : i < (ks.zip (H1.map (Blk.ren ks))).length := by simp; omega
      have := hH _ (List.getElem_mem hi2)
      rwa [List.getElem_zip, e] at this
    have hle2 := LeH_congr (fun k hk => (hHl k hk).2) hle
    have hdo := call_doesM (P := P) (s := s2) (o := { dst := dst, op := .call { callee := .value fo, args := args, argTypes := ts }, type := ty, pos := pos, after := aft, guard := gd }) rfl h1 hc (ks := ks) (by rw [h2]; exact argsN_M hargs) hle2 hnd (List.all_eq_true.2 fun k hk => by simpa using (hHl k hk).1) hsc
    have e0 : H1.length - ks.length = 0 := by omega
    rw [e0] at hdo
    simp only [List.range'_zero, List.append_nil] at hdo
    rw [putM_zip ks _ _ hnd (by simp [hlen])] at hdo
    exact hdo
end
end Go.Pv
