/-
  Operations beside the set: each with its own law. Conditions: none; a library text.
-/
import Derived.Test.YtllompejbfbabaaDoorPvQ
set_option linter.all false
namespace Go.Pv
open Go.RowKit

section
variable {P : Program} {T : TypeId → Option TI} {s : St}

/-- THE WORD OF THE WALK: one operation, of a law of its own. -/
theorem runs_op {all : Array Oper} {rest : List Oper} {K : St → Prop} {o : Oper} {av : AV} {H' : Heap} (h1 : DoesW P o s av H') (hg : guardA all s o = some true) (hd : dstOk s o.dst)
    (h : Runs P false all rest K (({ s with H := H' } : St).put o.dst av)) : Runs P false all (o :: rest) K s := by
  obtain ⟨s', hr, hK⟩ := h
  exact ⟨s', .cons (.op s _ _ hg (dstOk_spec hd) h1 fun h => by cases h) hr, hK⟩

theorem capNil_does (hT : ∀ t ti, T t = some ti → tiOf P t = some ti) {o : Oper} {t : TypeId} {x : Operand} (ho : o.op = .call { callee := .builtin .cap, args := #[x], argTypes := #[t] }) {ti : TI} (ht : T t = some ti) {e : TypeId} (hk : ti.kind = .slice e) (hx : s.ev x = .p .nil) :
    DoesW P o s (.p (.int .i64 0)) s.H := by
  intro C m a w K Q R hK
  obtain ⟨dst, op, type, pos, after, guard⟩ := o
  simp only at ho
  subst ho
  have hu := ti_slice (hT _ _ ht) hk
  have h := R.ev x
  rw [hx] at h
  have hv := h.p_inv.nil_inv
  have hr : (execOp a.eval { dst := dst, op := .call { callee := .builtin .cap, args := #[x], argTypes := #[t] }, type := type, pos := pos, after := after, guard := guard }).run P w = .ok (.value (.int .i64 0)) w := by
    simp [BigFrame.execOp_builtin, BigFrame.builtin_cap, Builtin.cap_, run_underlying hu, hv, goInt]
  unfold Oper.wp
  rw [hr]
  exact hK _ m w R (.p _ _ (.int _ _))

theorem sliceNil_does (hT : ∀ t ti, T t = some ti → tiOf P t = some ti) {o : Oper} {t : TypeId} {x y : Operand} (ho : o.op = .slice t x none (some y) none) {ti te : TI} (ht : T t = some ti) {e : TypeId} (hk : ti.kind = .slice e) (hte : T e = some te) (hx : s.ev x = .p .nil) (hy : s.ev y = .p (.int .i64 0)) :
    DoesW P o s (.p .nil) s.H := by
  intro C m a w K Q R hK
  obtain ⟨dst, op, type, pos, after, guard⟩ := o
  simp only at ho
  subst ho
  have hu := ti_slice (hT _ _ ht) hk
  have h := R.ev x
  rw [hx] at h
  have hv := h.p_inv.nil_inv
  have h2 := R.ev y
  rw [hy] at h2
  have hbd := bound_run (P := P) (lo := none) (hi := some y) (a := a) (w := w) (cap := 0) (len := 0) (p := 0) (q := 0) R rfl (by simp [boundA, hy]) (by omega) (by omega) (by omega) (Nat.le_refl _)
  have hr : (execOp a.eval { dst := dst, op := .slice t x none (some y) none, type := type, pos := pos, after := after, guard := guard }).run P w = .ok (.value (.slice none 0 0)) w := by
    simp only [Option.map_none, Option.map_some] at hbd
    simp [execOp, hv, Instr.sliceAt, Instr.slice, run_underlying hu, hbd, ti_size (hT _ _ hte)]
  unfold Oper.wp
  rw [hr]
  exact hK _ m w R (.p _ _ .nil)

theorem append_zeros {t e u : TypeId} {i : TypeInfo} {z : Value} {k : IntKind} (ty : TypeId) {w : World} (ht : P.underlying t = some (.slice e)) (hu : P.underlying u = some (.int k)) (hi : P.info? e = some i) (hz : i.zero = some z) (hsz : i.size = 1) {k' : IntKind} {n : Nat} (hn : 0 < n) (h47 : n * i.bytes ≤ 140737488355328) (h63 : n ≤ 1000000000) :
    (Builtin.append_ #[t, u] ty #[.slice none 0 0, .int k' n]).run P w =
      .ok (.slice (some ⟨w.heap.size, 0, none⟩) n (grownCap w n 0 e))
        (w.drew.alloc (.cells (#[] ++ Builtin.zeroCells z.cells n ++ Builtin.zeroCells z.cells (grownCap w n 0 e - n)) e)) := by
  have hw : IntKind.i64.wrap (n : Int) = n := wrap64_in ⟨by omega, by omega⟩
  have hnr : ¬ (n ≤ 0) := by omega
  have h63' : ¬ (9223372036854775807 < (n : Int)) := by omega
  have hfit := growslice_fits (need := n) (old := 0) (bytes := i.bytes) hn h47
  have h48' : ¬ (281474976710656 < Builtin.nextslicecap n 0 * i.bytes) := by omega
  have h0 : ¬ ((n : Int) < 0) := by omega
  have h48 : ¬ ((n : Int) * (i.bytes : Int) > 281474976710656) := by
    have : (n : Int) * (i.bytes : Int) = ((n * i.bytes : Nat) : Int) := by simp
    omega
  have hn1 : ¬ (n = 0) := by omega
  simp [Builtin.append_, run_underlying ht, run_underlying hu, sizeOf, typeInfo, zeroValue, hi, hz, hsz, hw, asInt, asIntOf, h0, h48, hn1, hnr, h63', h48', Question.forced, newRow, grownCap, Builtin.firstCells]

theorem appendZeros_does (hT : ∀ t ti, T t = some ti → tiOf P t = some ti) {o : Oper} {t u : TypeId} {x y : Operand} (ho : o.op = .call { callee := .builtin .append, args := #[x, y], argTypes := #[t, u] }) {ti te tu : TI} (ht : T t = some ti) {e : TypeId} (hk : ti.kind = .slice e) (hte : T e = some te)
    (hu : T u = some tu) {k : IntKind} (hku : tu.kind = .int k) {z : Value} (hz : te.zero = [z]) (hsz : te.size = 1) (hx : s.ev x = .p .nil) {k' : IntKind} {n : Nat} (hy : s.ev y = .p (.int k' n)) (hn : 0 < n) (h47 : n * te.bytes ≤ 140737488355328) (h63 : n ≤ 1000000000) :
    DoesW P o s (.sl s.H.length 0 n) (s.H ++ [.own []]) := by
  intro C m a w K Q R hK
  obtain ⟨dst, op, type, pos, after, guard⟩ := o
  simp only at ho
  subst ho
  have hu1 := ti_slice (hT _ _ ht) hk
  have hu2 := ti_int (hT _ _ hu) hku
  have h := R.ev x
  rw [hx] at h
  have hv := h.p_inv.nil_inv
  have h2 := R.ev y
  rw [hy] at h2
  have hv2 := h2.p_inv.int_inv
  obtain ⟨i, d, z', h1, h2, h3, h4, h5, h6, h7, h8⟩ := tiOf_parts (hT _ _ hte)
  have hzc : z'.cells = #[z] := by
    rw [hz] at h6
    have := congrArg List.toArray h6
    simpa using this
  have hr := append_zeros (P := P) (w := w) (k' := k') type hu1 hu2 h1 h3 (by rw [h4, hsz]) hn (by rw [h5]; exact h47) h63
  rw [hzc] at hr
  have hge := grownCap_ge w n 0 e
  have hle := grownCap_le_maxLen w n 0 e (by unfold maxLen; omega)
  have hcs : (#[] ++ Builtin.zeroCells #[z] n ++ Builtin.zeroCells #[z] (grownCap w n 0 e - n)).size = grownCap w n 0 e := by
    simp only [Array.size_append, List.size_toArray, size_zeroCells, Array.size_empty, Nat.mul_one, List.size_toArray, List.length_cons, List.length_nil]; omega
  have hrel := R.newBlk (below_drew_alloc _) (cur := #[] ++ Builtin.zeroCells #[z] n ++ Builtin.zeroCells #[z] (grownCap w n 0 e - n)) (e := e) (heap_alloc_new w.drew _) (by rw [hcs]; exact hle) (c := []) (Nat.zero_le _) (fun j hj => by simp at hj)
  have hrun : (execOp a.eval { dst := dst, op := .call { callee := .builtin .append, args := #[x, y], argTypes := #[t, u] }, type := type, pos := pos, after := after, guard := guard }).run P w = .ok (.value (.slice (some ⟨w.heap.size, 0, none⟩) n (grownCap w n 0 e)))
        (w.drew.alloc (.cells (#[] ++ Builtin.zeroCells #[z] n ++ Builtin.zeroCells #[z] (grownCap w n 0 e - n)) e)) := by
    simp only [BigFrame.execOp_builtin, BigFrame.builtin_append, List.map_toArray, List.map_cons, List.map_nil, hv, hv2, Sem.run_bind, hr, Result.andThen_ok, Sem.run_pure]
  unfold Oper.wp
  rw [hrun]
  refine hK _ _ _ hrel (.sl _ _ _ _ (by simp) <| .inr ⟨⟨w.heap.size, 0, (#[] ++ Builtin.zeroCells #[z] n ++ Builtin.zeroCells #[z] (grownCap w n 0 e - n)).size⟩, grownCap w n 0 e, by simp [mput], by simp, hge, by simp only [hcs]; omega⟩)

/-- An empty slice: nil, or not. -/
theorem hk_nil {c : Code} {Q : Exit → St → Prop} (t : Nat) (hs : s.get t = .p (.list [])) (h1 : Holds P c Q { s with sl := (t, .p .nil) :: s.sl }) (h2 : Holds P c Q { s with sl := (t, .p .nz) :: s.sl }) : Holds P c Q s := by
  intro C m a w R hd
  have put : ∀ pv, Reads (OK C m s.H w) w pv (a.tmps.getD t undef) → Rel C m { s with sl := (t, .p pv) :: s.sl } a.tmps w := by
    intro pv hpv
    refine ⟨R.laid, R.below, R.base, R.size, R.inj, R.blk, R.fro, fun t' => ?_⟩
    by_cases e : t = t'
    · subst e
      have e2 : ({ s with sl := (t, AV.p pv) :: s.sl } : St).get t = .p pv := by simp [St.get, lk]
      rw [e2]
      exact .p _ _ hpv
    · have e2 : ({ s with sl := (t, AV.p pv) :: s.sl } : St).get t' = s.get t' := by simp [St.get, lk, show (t == t') = false by simpa using e]
      rw [e2]
      exact R.slot t'
  have h := R.slot t
  rw [hs] at h
  have h := h.p_inv
  obtain ⟨ad, cap, e, _⟩ := h.list_len
  simp only [List.length_nil] at e
  rw [e] at h put
  cases ad with
  | none =>
    have hc := h.list_cap rfl
    subst hc
    exact h1 C m a w (put _ .nil) hd
  | some b => exact h2 C m a w (put _ (.nz b cap)) hd

/-- What is nil is an empty row of the call's own, too. -/
theorem hk_own0 {c : Code} {Q : Exit → St → Prop} (t : Nat) (hs : s.get t = .p .nil) (h : Holds P c Q { s with sl := (t, .sl s.H.length 0 0) :: s.sl, H := s.H ++ [.own []] }) : Holds P c Q s := by
  intro C m a w R hd
  have hv := R.slot t
  rw [hs] at hv
  have hv := hv.p_inv.nil_inv
  have R' := R.newNil
  refine h C _ a w ⟨R'.laid, R'.below, R'.base, R'.size, R'.inj, R'.blk, R'.fro, fun t' => ?_⟩ hd
  by_cases e : t = t'
  · subst e
    have e2 : ({ s with sl := (t, .sl s.H.length 0 0) :: s.sl, H := s.H ++ [.own []] } : St).get t = .sl s.H.length 0 0 := by simp [St.get, lk]
    rw [e2, hv]
    exact .sl _ _ _ _ (by simp) <| .inl ⟨rfl, none, rfl⟩
  · have e2 : ({ s with sl := (t, .sl s.H.length 0 0) :: s.sl, H := s.H ++ [.own []] } : St).get t' = s.get t' := by simp [St.get, lk, show (t == t') = false by simpa using e]
    rw [e2]
    exact R'.slot t'

/-- What reads as the first reads as the second. -/
inductive Sub : PV → PV → Prop
  | same (a : PV) : Sub a a
  | nn (l : List PV) : Sub (.nn l) (.list l)
  | nil : Sub .nil (.list [])
  | nz : Sub .nz (.list [])

theorem Sub.reads {a b : PV} (h : Sub a b) {ok : Nat → Prop} {w : World} {v : Value} (hv : Reads ok w a v) : Reads ok w b v := by
  cases h with
  | same => exact hv
  | nn l => exact hv.nn_list
  | nil => exact hv.nil_list
  | nz =>
    cases hv with
    | nz a cap => exact .list0 _ _ fun h => by cases h

def Subs : List PV → List PV → Prop
  | [], [] => True
  | a :: r, b :: s => Sub a b ∧ Subs r s
  | _, _ => False

theorem Subs.len : ∀ {l r : List PV}, Subs l r → l.length = r.length
  | [], [], _ => rfl
  | a :: l, b :: r, h => by simp [Subs.len h.2]
  | [], _ :: _, h => h.elim
  | _ :: _, [], h => h.elim

theorem Subs.get : ∀ {l r : List PV}, Subs l r → ∀ (i : Nat) (h : i < l.length) (h' : i < r.length), Sub l[i] r[i]
  | a :: l, b :: r, h, 0, _, _ => h.1
  | a :: l, b :: r, h, i + 1, h1, h2 => by simpa using Subs.get h.2 i (by simpa using h1) (by simpa using h2)
  | [], [], _, i, h, _ => by simp at h
  | [], _ :: _, h, _, _, _ => h.elim
  | _ :: _, [], h, _, _, _ => h.elim

theorem FnC.sub {f : FuncId} {args args' : List PV} {r : PV} (h : FnC P f args r) (hs : Subs args' args) : FnC P f args' r := by
  refine ⟨h.1, fun okA w vals h1 h2 h3 => h.2 okA w vals h1 (h2.trans hs.len) fun i hi => ?_⟩
  have := hs.len
  exact (hs.get i (by omega) hi).reads (h3 i (by omega))

/-- A row of numbers that is written no more. -/
theorem hk_seal {c : Code} {Q : Exit → St → Prop} (t k : Nat) {w : List Int} (h1 : s.get t = .sl k 0 w.length) (h2 : hget s.H k = .own (ol w)) (h : Holds P c Q { s with sl := (t, .p (.list (il w))) :: s.sl, H := hset s.H k (.fro (il w)) }) : Holds P c Q s := by
  refine hk_freeze k h2 (ol_allP w) (hk_pure (s := { s with H := hset s.H k (.fro (il w)) }) t (p := 0 + w.length ≤ (il w).length ∧ (((il w).drop 0).take w.length).all PV.one = true) (pv := .list (((il w).drop 0).take w.length)) ?_ ?_ ?_)
  · have e : ({ s with H := hset s.H k (.fro (il w)) } : St).get t = .sl k 0 w.length := h1
    rw [e]
    have hk := hget_mut h2
    have hkl : k < s.H.length := (List.getElem?_eq_some_iff.1 hk).1
    have e2 : hget (hset s.H k (.fro (il w))) k = .fro (il w) := by
      have key : ∀ (H : Heap) (k : Nat) (b : Blk), k < H.length → hget (hset H k b) k = b := by
        intro H
        induction H with
        | nil => intro k b h; simp at h
        | cons x r ih =>
          intro k b h
          cases k with
          | zero => rfl
          | succ k => exact ih k b (by simpa using h)
      exact key _ _ _ hkl
    simp only [peekG, peekS, e2]
  · simp only [il_length, List.drop_zero, il_take, take_len, il_all]
    exact ⟨by omega, trivial⟩
  · simp only [List.drop_zero, il_take, take_len]
    exact h

/-- Rows of numbers, in a row. -/
def ll (ls : List (List Int)) : List PV := ls.map fun w => .list (il w)

theorem ll_length (ls : List (List Int)) : (ll ls).length = ls.length := by simp [ll]
theorem ll_get {ls : List (List Int)} {i : Nat} (h : i < ls.length) : (ll ls).getD i default = .list (il (ls.getD i [])) := by
  simp [ll, List.getD, List.getElem?_eq_getElem h]
theorem ll_all (ls : List (List Int)) : (ll ls).all PV.one = true := by simp [ll, PV.one]
theorem ll_cells (ls : List (List Int)) : (ll ls).all (fun x => x.cells.length == 1) = true := by simp [ll, PV.cells]

theorem appendNz_does (hT : ∀ t ti, T t = some ti → tiOf P t = some ti) {o : Oper} {t : TypeId} {x y : Operand} (ho : o.op = .call { callee := .builtin .append, args := #[x, y], argTypes := #[t, t] }) {ti te : TI} (ht : T t = some ti) {e : TypeId} (hk : ti.kind = .slice e) (hte : T e = some te) (hsz : te.size = 1)
    {l : List PV} (hx : s.ev x = .p (.nn l)) (hy : s.ev y = .p .nz) : DoesW P o s (.p (.nn l)) s.H := by
  intro C m a w K Q R hK
  obtain ⟨dst, op, type, pos, after, guard⟩ := o
  simp only at ho
  subst ho
  have hu := ti_slice (hT _ _ ht) hk
  obtain ⟨i, d, z, h1, h2, h3, h4, h5, h6, h7, h8⟩ := tiOf_parts (hT _ _ hte)
  have h := R.ev x
  rw [hx] at h
  have hl := h.p_inv
  obtain ⟨ad, hv⟩ : ∃ ad, a.eval x = .slice (some ad) l.length l.length := by
    generalize a.eval x = v at hl
    rcases hl.nn_inv with ⟨rfl, ad, rfl⟩ | ⟨b, off, sz, vs, rfl, _⟩
    · exact ⟨ad, rfl⟩
    · exact ⟨_, rfl⟩
  have hy' := R.ev y
  rw [hy] at hy'
  obtain ⟨ad2, cap2, hv2⟩ := hy'.p_inv.nz_inv
  have hr := append_nothing (P := P) (w := w) type hu h1 (by rw [h4, hsz]) (ad := some ad) (n := l.length) (cap := l.length) (x := .slice (some ad2) 0 cap2) src_nil (Nat.le_refl _)
  have hrun : (execOp a.eval { dst := dst, op := .call { callee := .builtin .append, args := #[x, y], argTypes := #[t, t] }, type := type, pos := pos, after := after, guard := guard }).run P w = .ok (.value (.slice (some ad) l.length l.length)) w := by
    simp only [BigFrame.execOp_builtin, BigFrame.builtin_append, List.map_toArray, List.map_cons, List.map_nil, hv, hv2, Sem.run_bind, hr, Result.andThen_ok, Sem.run_pure]
  unfold Oper.wp
  rw [hrun]
  rw [hv] at hl
  exact hK _ m w R (.p _ _ hl)

end

/-- Small equations, all in one. -/
def ev0 := And.intro @pc_int
  <| And.intro @pc_bool
  <| And.intro @pc_str
  <| And.intro @pc_list
  <| And.intro @pc_nn
  <| And.intro @pc_nil
  <| And.intro @pc_agg
  <| And.intro @pc_ptr
  <| And.intro @pc_fn
  <| And.intro @Nat.sub_zero
  <| And.intro @Int.toNat_natCast
  <| And.intro @Int.toNat_zero
  <| And.intro @List.replicate_zero.{0}
  <| And.intro @il_length
  <| And.intro @ll_length
  <| And.intro @ll_all
  <| And.intro @ll_cells
  <| And.intro @il_all
  <| And.intro @il_cells
  <| And.intro @il_ol
  <| And.intro @ol_length
  <| And.intro @ol_ok
  <| And.intro @ol_ren
  <| And.intro @ol_sc
  <| And.intro @ol_allP
  <| And.intro @ol_take
  <| And.intro @ol_drop
  <| And.intro @ol_append
  <| And.intro @ol_snoc
  <| And.intro @take_len
  <| And.intro @il_take
  <| And.intro @il_drop
  <| And.intro @drop_take_len
  <| And.intro @tm_nat
  <| And.intro @td_nat
  <| And.intro @tn_pred
  <| And.intro @tn_succ
  <| And.intro @tn_sub
  <| And.intro @List.headD_cons.{0}
  <| And.intro @List.map_cons.{0, 0}
  <| And.intro @List.map_nil.{0, 0}
  <| And.intro @List.nil_append.{0}
  <| And.intro @List.append_nil.{0}
  <| And.intro @List.cons_append.{0}
  <| And.intro @List.length_cons.{0}
  <| And.intro @List.length_nil.{0}
  <| And.intro @List.getElem?_cons_zero.{0}
  <| And.intro @List.getElem?_cons_succ.{0}
  <| And.intro @Option.map_some.{0, 0}
  <| And.intro @Option.map_none.{0, 0}
  <| And.intro @Option.bind_some.{0, 0}
  <| And.intro @cond_true.{1}
  <| And.intro @cond_false.{1}
  <| And.intro @Nat.zero_add
  <| And.intro @Nat.add_zero
  <| And.intro @true_and
  <| And.intro @and_true
  <| And.intro @Int.zero_sub
  <| And.intro @Int.neg_zero
  <| And.intro @Int.sub_zero
  <| And.intro @and_self
  <| And.intro @List.getElem?_toArray.{0}
  <| And.intro @List.getD_cons_zero.{0}
  <| And.intro @List.getD_cons_succ.{0}
  <| And.intro @List.all_cons.{0}
  <| And.intro @List.all_nil.{0}
  <| And.intro @Bool.and_true
  <| And.intro @Bool.true_and
  <| And.intro @Bool.and_self
  <| And.intro @List.take_zero.{0}
  <| And.intro @List.drop_zero.{0}
  <| And.intro @eqv_tt
  <| And.intro @eqv_tf
  <| And.intro @eqv_ft
  <| And.intro @eqv_ff
  <| And.intro @Bool.not_true
  <| And.intro @Bool.not_false
  <| And.intro @Bool.false_eq_true
  <| And.intro @Bool.true_eq_false
  <| And.intro @Option.some.injEq.{0}
  <| And.intro @eq_self.{1}
  <| And.intro @ne_eq.{1}
  <| And.intro @not_false_eq_true
  <| And.intro @Nat.one_ne_zero
  <| And.intro @List.take_succ_cons.{0}
  <| And.intro @List.take_nil.{0}
  <| And.intro @List.drop_succ_cons.{0}
  <| And.intro @List.drop_nil.{0}
  <| And.intro @List.set_cons_zero.{0}
  <| And.intro @List.set_cons_succ.{0}
  <| @List.set_nil.{0}

end Go.Pv
