
/-
  Steps of a region beside those that are evaluated: literal rows as one's own, entries of literal maps. Conditions: none; a library text.
-/
import Derived.Test.YtjikchbmkodgfaaDoorPvW2
set_option linter.all false

namespace Go.Pv
open Go.RowKit
section
variable {P : Program} {T : TypeId → Option TI} {s : St}
theorem appendNn0_does (hT : ∀ t ti, T t = some ti → tiOf P t = some ti) {o : Oper} {t : TypeId} {x y : Operand} (ho : o.op = .call { callee := .builtin .append, args := #[x, y], argTypes := #[t, t] }) {ti te : TI} (ht : T t = some ti) {e : TypeId} (hk : ti.kind = .slice e) (hte : T e = some te) (hsz : te.size = 1)
    {l : List PV} {k lo : Nat} (hx : s.ev x = .p (.nn l)) (hy : s.ev y = .sl k lo 0) : DoesW P o s (.p (.nn l)) s.H := by
  intro C m a w K Q R hK
  obtain ⟨dst, op, type, pos, after, guard⟩ := o
  simp only at ho
  subst ho
  have hu := ti_slice (hT _ _ ht) hk
  obtain ⟨i, d, z, h1, h2, h3, h4, h5, h6, h7, h8⟩ := tiOf_parts (hT _ _ hte)
  have h := R.ev x
  rw [hx] at h
  have hl := h.p_inv
  obtain ⟨ad, hv⟩ : ∃ ad, a.eval x = .slice (some ad) l.length l.length := by
    generalize a.eval x = v at hl
    rcases hl.nn_inv with ⟨rfl, ad, rfl⟩ | ⟨b, off, sz, vs, rfl, _⟩
    · exact ⟨ad, rfl⟩
    · exact ⟨_, rfl⟩
  have hy' := R.ev y
  rw [hy] at hy'
  obtain ⟨ad2, cap2, hv2⟩ : ∃ ad2 cap2, a.eval y = .slice ad2 0 cap2 := by
    generalize a.eval y = v at hy'
    cases hy' with
    | sl _ _ _ _ _ hs =>
      rcases hs with ⟨_, ad, rfl⟩ | ⟨l', cap, _, rfl, _⟩
      · exact ⟨_, _, rfl⟩
      · exact ⟨_, _, rfl⟩
  have hr := append_nothing (P := P) (w := w) type hu h1 (by rw [h4, hsz]) (ad := some ad) (n := l.length) (cap := l.length) (x := .slice ad2 0 cap2) src_nil (Nat.le_refl _)
  have hrun : (execOp a.eval { dst := dst, op := .call { callee := .builtin .append, args := #[x, y], argTypes := #[t, t] }, type := type, pos := pos, after := after, guard := guard }).run P w = .ok (.value (.slice (some ad) l.length l.length)) w := by
    simp only [BigFrame.execOp_builtin, BigFrame.builtin_append, List.map_toArray, List.map_cons, List.map_nil, hv, hv2, Sem.run_bind, hr, Result.andThen_ok, Sem.run_pure]
  unfold Oper.wp
  rw [hrun]
  rw [hv] at hl
  exact hK _ m w R (.p _ _ hl)
theorem appendNn0_loc (hT : ∀ t ti, T t = some ti → tiOf P t = some ti) {o : Oper} {t : TypeId} {x y : Operand} (ho : o.op = .call { callee := .builtin .append, args := #[x, y], argTypes := #[t, t] }) {ti te : TI} (ht : T t = some ti) {e : TypeId} (hk : ti.kind = .slice e) (hte : T e = some te) (hsz : te.size = 1)
    {l : List PV} {k lo : Nat} (hx : s.ev x = .p (.nn l)) (hy : s.ev y = .sl k lo 0) : Loc1 P o s (.p (.nn l)) s.H := by
  have hx2 : x ∈ o.op.operands := by rw [ho]; simp [Op.operands, Call.operands]
  have hy2 : y ∈ o.op.operands := by rw [ho]; simp [Op.operands, Call.operands]
  refine ⟨fun s2 hn ha hH => ?_, fun hf => by simp [ho, isT] at hf, fun hf => by simp [ho, isW] at hf⟩
  rw [← hH]
  exact appendNn0_does hT ho ht hk hte hsz ((ha _ hx2).trans hx) ((ha _ hy2).trans hy)
theorem runs_opD {draw : Bool} {all : Array Oper} {rest : List Oper} {K : St → Prop} {o : Oper} {av : AV} {H' : Heap} (h1 : Loc1 P o s av H') (hg : guardA all s o = some true) (hd : dstOk s o.dst)
    (h : Runs P draw all rest K (({ s with H := H' } : St).put o.dst av)) : Runs P draw all (o :: rest) K s := by
  obtain ⟨s', hr, hK⟩ := h
  exact ⟨s', .cons (.op s _ _ hg (dstOk_spec hd) (h1.here s rfl (fun _ _ => rfl) rfl) fun _ => h1) hr, hK⟩
theorem runs_at {draw : Bool} {all : Array Oper} {K : St → Prop} (n : Nat) {l : List Oper} (h : Runs P draw all (l.take n) (fun s' => Runs P draw all (l.drop n) K s') s) : Runs P draw all l K s := by
  have gen : ∀ (l1 l2 : List Oper) (s s1 s2 : St), Run1 P draw all l1 s s1 → Run1 P draw all l2 s1 s2 → Run1 P draw all (l1 ++ l2) s s2 := by
    intro l1
    induction l1 with
    | nil => intro l2 s s1 s2 h1 h2; cases h1; exact h2
    | cons o r ih => intro l2 s s1 s2 h1 h2; cases h1 with | cons a b => exact .cons a (ih l2 _ _ _ b h2)
  obtain ⟨s1, h1, s2, h2, hK⟩ := h
  exact ⟨s2, by have := gen _ _ _ _ _ h1 h2; rwa [List.take_append_drop] at this, hK⟩

/-- A literal row, as a block of the call's own. -/
theorem buildOwn_does (hT : ∀ t ti, T t = some ti → tiOf P t = some ti) {o : Oper} {t : TypeId} {n : Nat} {parts : Array (Nat × Operand)} (ho : o.op = .buildSlice t n parts) {ti te : TI} (ht : T t = some ti) {e : TypeId} (hk : ti.kind = .slice e) (hte : T e = some te) (hsz : te.size = 1) (hzl : te.zero.length = 1)
    {p : Prop} {l : List PV} (hp : partsA 1 0 (parts.toList.map fun q => (q.1, s.ev q.2)) = some (p, l)) (hvc : p) (hl : l.length = n) (hn : n ≤ 16777216) (hone : l.all PV.one = true) : DoesW P o s (.sl s.H.length 0 n) (s.H ++ [.own (opl l)]) := by
  intro C m a w K Q R hK
  have hu := ti_slice (hT _ _ ht) hk
  obtain ⟨i, d, z, h1, h2, h3, h4, h5, h6, h7, h8⟩ := tiOf_parts (hT _ _ hte)
  have key : ∀ z0 : Array Value, ∃ cs', (∀ x ∈ l, x.cells.length = 1) ∧ Instr.fill (fun i => some (i * 1, 1)) ((Array.range (n * 1)).map (z0[· % z0.size]!)) (parts.toList.map fun q => (q.1, a.eval q.2)) = some cs' ∧ cs'.size = n * 1 ∧
      ∀ c (h : c < (flat l).length), Reads (OK C m s.H w) w (flat l)[c] (cs'.getD c undef) := by
    intro z0
    obtain ⟨k1, cs', k2, k3, _, k5⟩ := partsA_run R 1 parts.toList 0 (cs := (Array.range (n * 1)).map (z0[· % z0.size]!)) hp hvc (by simp [hl])
    exact ⟨cs', k1, k2, by rw [k3]; simp, fun c hc => by have := k5 c hc; rwa [Nat.zero_mul, Nat.zero_add] at this⟩
  obtain ⟨cs', k1, k2, k3, k5⟩ := key (if n * 1 = 0 then #[] else z.cells)
  have hss := ti_size (hT _ _ hte) w
  rw [hsz] at hss
  have hfl0 := flat_length_eq 1 l k1
  have hfl : flat l = l := flat_all_one hone
  have hrun : (execOp a.eval o).run P w = .ok (.value (.slice (some ⟨w.heap.size, 0, none⟩) n n)) (w.alloc (.cells cs' e)) := by
    have hpt : (parts.map fun q => (q.1, a.eval q.2)).toList = parts.toList.map fun q => (q.1, a.eval q.2) := by simp
    have hne : ¬ (n * 1 > 2 ^ 24) := by omega
    by_cases hz : n * 1 = 0
    · rw [if_pos hz] at k2
      simp only [execOp, ho, Instr.buildSlice, Sem.run_bind, run_underlying hu, Result.andThen_ok, hss, Sem.run_ite, hz, if_true, Sem.run_pure, newRow] at k2 ⊢
      simp only [hpt, k2, Sem.run_bind, run_newObj, Result.andThen_ok, Sem.run_pure]
      rfl
    · rw [if_neg hz] at k2
      simp only [execOp, ho, Instr.buildSlice, Sem.run_bind, run_underlying hu, Result.andThen_ok, hss, Sem.run_ite, hne, if_false, hz, zeroValue, typeInfo, run_program, h1, h3, Sem.run_pure, newRow] at k2 ⊢
      simp only [hpt, k2, Sem.run_bind, run_newObj, Result.andThen_ok, Sem.run_pure]
      rfl
  have hrel := R.newBlk (below_alloc _) (cur := cs') (e := e) (heap_alloc_new w _) (by rw [k3]; unfold maxLen; omega) (c := opl l) (by rw [opl_length, k3]; omega) (by
    intro j hj
    rw [opl_length] at hj
    have := k5 j (by rw [hfl]; exact hj)
    simp only [hfl] at this
    simp only [opl, List.getElem_map]
    exact .p _ _ this)
  unfold Oper.wp
  rw [hrun]
  exact hK _ _ _ hrel (.sl _ _ _ _ (by simp) <| .inr ⟨⟨w.heap.size, 0, cs'.size⟩, n, by simp [mput], by simp, Nat.le_refl _, by simp only; omega⟩)

/-- An entry of a literal map. -/
theorem insert_does (hT : ∀ t ti, T t = some ti → tiOf P t = some ti) {o : Oper} {t : TypeId} {x y z : Operand} (ho : o.op = .insert t x y z) {ti : TI} (ht : T t = some ti) {r : OV} (h : mapUpdateA T ti s.H (s.ev x) (s.ev y) (s.ev z) = some r) (hvc : r.vc) : DoesW P o s r.av r.H := by
  intro C m a w K Q R hK
  obtain ⟨v, w', m', hy, R', hv⟩ := mapUpdateA_does hT R (o := { o with op := .mapUpdate t x y z }) rfl ht h hvc
  have := hK v m' w' R' hv
  have e : execOp a.eval o = execOp a.eval { o with op := .mapUpdate t x y z } := by
    simp only [execOp, ho]
  rcases hy with hr | ⟨hr, rfl⟩
  · unfold Oper.wp; rw [e, hr]; exact this
  · unfold Oper.wp; rw [e, hr]; exact this
end
end Go.Pv
