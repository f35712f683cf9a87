/-
  Rows of rows, of the call's own, as many as one likes. Conditions: none; a library text.
-/
import Derived.Test.YthdmioeddgednaaDoorPvT
import Derived.Test.YthdmioeddgednaaDoorPvZ
set_option linter.all false
namespace Go.Pv
open Go.RowKit

def tl (M : List (List Int)) : Heap := M.map fun v => .own (ol v)
def fr (M : List (List Int)) : Heap := M.map fun v => .fro (il v)
def rwf (N a c : Nat) : List AV := (List.range' a c).map fun q => .sl (q + 3) 0 N
def rws (N c : Nat) : List AV := rwf N 0 c

theorem tl_length (M : List (List Int)) : (tl M).length = M.length := by simp [tl]
theorem fr_length (M : List (List Int)) : (fr M).length = M.length := by simp [fr]
theorem rws_length (N c : Nat) : (rws N c).length = c := by simp [rws, rwf]
theorem rws_snoc (N c : Nat) : rws N c ++ [.sl (c + 3) 0 N] = rws N (c + 1) := by
  simp [rws, rwf, List.range'_concat]
theorem rws_get {N c a : Nat} (h : a < c) (d : AV) : (rws N c).getD a d = .sl (a + 3) 0 N := by
  simp [rws, rwf, List.getD, List.getElem?_map, List.getElem?_range' h]

theorem hget_eq : ∀ (H : Heap) (k : Nat), hget H k = H.getD k .dead
  | [], k => by simp [hget]
  | b :: r, 0 => by simp [hget]
  | b :: r, k + 1 => by rw [hget, hget_eq r k]; simp
theorem hset_eq : ∀ (H : Heap) (k : Nat) (b : Blk), hset H k b = H.set k b
  | [], k, b => by simp [hset]
  | x :: r, 0, b => by simp [hset]
  | x :: r, k + 1, b => by rw [hset, hset_eq r k]; simp

theorem hget_tl {M : List (List Int)} {i : Nat} (h : i < M.length) : hget (tl M) i = .own (ol (M.getD i [])) := by
  rw [hget_eq]
  simp [tl, List.getD, List.getElem?_map, List.getElem?_eq_getElem h]
theorem hset_tl (M : List (List Int)) (i : Nat) (v : List Int) : hset (tl M) i (.own (ol v)) = tl (M.set i v) := by
  rw [hset_eq]
  simp [tl, List.map_set]
theorem hget_snoc (A : Heap) (x : Blk) : hget (A ++ [x]) A.length = x := by
  rw [hget_app2 (Nat.le_refl _), Nat.sub_self]; rfl
theorem rws_take (N c : Nat) : (rws N c).take c = rws N c := List.take_of_length_le (by rw [rws_length]; exact Nat.le_refl _)
theorem rws_ok (N c : Nat) : (rws N c).all cellOk = true := by
  simp [rws, rwf, cellOk]
theorem tl_snoc (M : List (List Int)) (v : List Int) : tl M ++ [.own (ol v)] = tl (M ++ [v]) := by simp [tl]

theorem ll_one (M : List (List Int)) : (ll M).all PV.one = true := by simp [ll, PV.one]

/-- A literal of one row of the call's own. -/
theorem build1_does {P : Program} {T : TypeId → Option TI} {s : St} (hT : ∀ t ti, T t = some ti → tiOf P t = some ti) {o : Oper} {t : TypeId} {x : Operand} (ho : o.op = .buildSlice t 1 #[(0, x)]) {ti te : TI} (ht : T t = some ti) {e : TypeId} (hk : ti.kind = .slice e) (hte : T e = some te) (hsz : te.size = 1)
    {k lo len : Nat} (hx : s.ev x = .sl k lo len) : DoesW P o s (.sl s.H.length 0 1) (s.H ++ [.own [.sl k lo len]]) := by
  intro C m a w K Q R hK
  have hv := R.ev x
  rw [hx] at hv
  generalize hev : a.eval x = v at hv
  have hcs : v.cells = #[v] := by
    cases hv with
    | sl _ _ _ _ hk hs =>
      rcases hs with ⟨_, ad, rfl⟩ | ⟨l, cap, _, rfl, _⟩ <;> rfl
  have hu := ti_slice (hT _ _ ht) hk
  obtain ⟨i, d, z, h1, h2, h3, h4, h5, h6, h7, h8⟩ := tiOf_parts (hT _ _ hte)
  have hfill : ∀ cs : Array Value, cs.size = 1 → Instr.fill (fun i => some (i * te.size, te.size)) cs [(0, v)] = some #[v] := by
    intro cs hc
    obtain ⟨y, rfl⟩ : ∃ y, cs = #[y] := by
      match cs, hc with
      | ⟨[y]⟩, _ => exact ⟨y, rfl⟩
    simp [Instr.fill, hcs, hsz]
  have hss := ti_size (hT _ _ hte) w
  have hb : Below w.heap.size w (w.alloc (.cells #[v] e)) := below_alloc _
  have hrun : (execOp a.eval o).run P w = .ok (.value (.slice (some ⟨w.heap.size, 0, none⟩) 1 1)) (w.alloc (.cells #[v] e)) := by
    have hne : ¬ (1 * te.size > 2 ^ 24) := by omega
    have hz : ¬ (1 * te.size = 0) := by omega
    have hf := hfill ((Array.range (1 * te.size)).map (z.cells[· % z.cells.size]!)) (by simp [hsz])
    have hpt : ((#[(0, x)] : Array (Nat × Operand)).map fun q => (q.1, a.eval q.2)).toList = [(0, v)] := by simp [hev]
    simp only [execOp, ho, Instr.buildSlice, Sem.run_bind, run_underlying hu, Result.andThen_ok, hss, Sem.run_ite, hne, if_false, hz, zeroValue, typeInfo, run_program, h1, h3, Sem.run_pure, newRow]
    simp only [hpt, hf, Sem.run_bind, run_newObj, Result.andThen_ok, Sem.run_pure]
    rfl
  have hrel := R.newBlk hb (cur := #[v]) (e := e) (heap_alloc_new w _) (by simp [maxLen]) (c := [.sl k lo len]) (by simp) (fun j hj => by
    simp only [List.length_cons, List.length_nil, Nat.zero_add, Nat.lt_one_iff] at hj
    subst hj
    exact hv)
  unfold Oper.wp
  rw [hrun]
  refine hK _ _ _ hrel (.sl _ _ _ _ (by simp) <| .inr ⟨⟨w.heap.size, 0, 1⟩, 1, by simp [mput], by simp, Nat.le_refl _, by simp⟩)

section
variable {P : Program} {c : Code} {Q : Exit → St → Prop}

theorem hk_frzT {g o r : Blk} : ∀ (M2 M1 : List (List Int)) (s : St), s.H = g :: o :: r :: (fr M1 ++ tl M2) → Holds P c Q { s with H := g :: o :: r :: fr (M1 ++ M2) } → Holds P c Q s
  | [], M1, s, hs, h => by
    have e : s = { s with H := g :: o :: r :: fr (M1 ++ []) } := by
      cases s
      simp only at hs
      subst hs
      simp [tl]
    rw [e]; exact h
  | v :: M2, M1, s, hs, h => by
    have hh : hget s.H (M1.length + 3) = .own (ol v) := by
      rw [hs, hget_eq]
      simp [fr, tl, List.getD, List.getElem?_append_right]
    refine hk_freeze (M1.length + 3) hh (ol_allP v) ?_
    refine hk_frzT (g := g) (o := o) (r := r) M2 (M1 ++ [v]) _ ?_ (by simpa using h)
    show hset s.H _ _ = _
    rw [hs, hset_eq]
    simp [fr, tl, List.set_append_right]

theorem hk_pureT {g o : Blk} {N : Nat} {F : Heap} : ∀ (M2 M1 : List (List Int)) (s : St), (∀ v ∈ M2, v.length = N) → F = fr (M1 ++ M2) → s.H = g :: o :: .own (opl (ll M1) ++ rwf N M1.length M2.length) :: F →
    Holds P c Q { s with H := g :: o :: .own (opl (ll (M1 ++ M2))) :: F } → Holds P c Q s
  | [], M1, s, _, hF, hs, h => by
    have e : s = { s with H := g :: o :: .own (opl (ll (M1 ++ []))) :: F } := by
      cases s
      simp only at hs
      subst hs
      simp [rwf]
    rw [e]; exact h
  | v :: M2, M1, s, hv, hF, hs, h => by
    have hv0 := hv v (by simp)
    have hl1 : (opl (ll M1)).length = M1.length := by rw [opl_length, ll_length]
    have hh : hget s.H 2 = .own (opl (ll M1) ++ rwf N M1.length (v :: M2).length) := by rw [hs]; rfl
    have hj : (opl (ll M1) ++ rwf N M1.length (v :: M2).length)[M1.length]? = some (.sl (M1.length + 3) 0 N) := by
      rw [List.getElem?_append_right (by omega), hl1, Nat.sub_self]
      simp [rwf, List.range'_succ]
    have hp : peekS s.H (.sl (M1.length + 3) 0 N) = some (0 + N ≤ (il v).length ∧ (((il v).drop 0).take N).all PV.one = true, .list (((il v).drop 0).take N), true) := by
      have : hget s.H (M1.length + 3) = .fro (il v) := by
        rw [hs, hF, hget_eq]
        simp [fr, List.getD]
      simp only [peekS, this]
    have he : ((il v).drop 0).take N = il v := by
      rw [List.drop_zero, List.take_of_length_le (by rw [il_length]; omega)]
    rw [he] at hp
    refine hk_purec 2 M1.length hh hj hp ⟨by rw [il_length]; omega, il_all v⟩ ?_
    refine hk_pureT (g := g) (o := o) (N := N) (F := F) M2 (M1 ++ [v]) _ (fun x hx => hv x (by simp [hx])) (by rw [hF]; simp) ?_ (by simpa using h)
    show hset s.H 2 _ = _
    rw [hs]
    have e : (opl (ll M1) ++ rwf N M1.length (v :: M2).length).set M1.length (.p (.list (il v))) = opl (ll (M1 ++ [v])) ++ rwf N (M1 ++ [v]).length M2.length := by
      rw [List.set_append_right _ _ (by omega), hl1, Nat.sub_self]
      simp [rwf, List.range'_succ, opl, ll]
    rw [e]
    rfl

/-- Rows of rows of the call's own, that are written no more. -/
theorem hk_rows {s : St} (t : Nat) {g o : Blk} {N : Nat} {M : List (List Int)} (hN : ∀ v ∈ M, v.length = N) (h1 : s.get t = .sl 2 0 M.length) (hH : s.H = g :: o :: .own (rws N M.length) :: tl M)
    (h : Holds P c Q { s with sl := (t, .p (.list (ll M))) :: s.sl, H := g :: o :: .fro (ll M) :: fr M }) : Holds P c Q s := by
  refine hk_frzT (g := g) (o := o) (r := .own (rws N M.length)) M [] s (by rw [hH]; simp [fr]) ?_
  refine hk_pureT (g := g) (o := o) (N := N) (F := fr M) M [] _ hN (by simp) (by simp [rws, opl, ll]) ?_
  simp only [List.nil_append]
  refine hk_freeze 2 rfl (opl_allP (ll M)) ?_
  refine hk_pure t (p := 0 + M.length ≤ (ll M).length ∧ (((ll M).drop 0).take M.length).all PV.one = true) (pv := .list (((ll M).drop 0).take M.length)) ?_ ?_ ?_
  · show peekG _ (s.get t) = _
    rw [h1]
    simp only [hset, peekG, peekS, hget]
  · rw [List.drop_zero, List.take_of_length_le (by rw [ll_length]; exact Nat.le_refl _)]
    exact ⟨by rw [ll_length]; omega, ll_one M⟩
  · rw [List.drop_zero, List.take_of_length_le (by rw [ll_length]; exact Nat.le_refl _)]
    simp only [hset]
    exact h

theorem leH_tl {π : List Nat} {H : Heap} : ∀ (M : List (List Int)) (ks : List Nat), ks.length = M.length → (∀ i, i < M.length → hget H (ks.getD i 0) = .own (ol (M.getD i []))) → LeH π H ks (tl M)
  | [], [], _, _ => trivial
  | [], k :: ks, h, _ => by simp at h
  | v :: M, [], h, _ => by simp at h
  | v :: M, k :: ks, h, hg => by
    refine ⟨?_, leH_tl M ks (by simpa using h) fun i hi => ?_⟩
    · have := hg 0 (by simp)
      simp only [List.getD_cons_zero] at this
      simp only [LeB, this]
      refine ⟨?_, ?_⟩
      · rw [List.take_of_length_le (Nat.le_refl _)]
        simp [ol, Go.Pv.ren, ren1]
      · simp [ol, scA, sc1]
    · have := hg (i + 1) (by simp; omega)
      simpa using this

theorem le_rows {S s : St} {κ N : Nat} {G O : List PV} {M : List (List Int)} {q : Nat} (hq : M.length = q) (hn : S.n = s.n) (hS : S.H = .own (opl G) :: .own (opl O) :: .own (rws N q) :: tl M)
    (hκ : κ ≠ 0 ∧ κ ≠ 1 ∧ (κ = 2 ∨ q + 3 ≤ κ)) (h0 : hget s.H 0 = .own (opl G)) (h1 : hget s.H 1 = .own (opl O)) (h2 : hget s.H κ = .own (rws N q))
    (h3 : ∀ i, i < q → hget s.H (i + 3) = .own (ol (M.getD i []))) (hsl : LeS (0 :: 1 :: κ :: List.range' 3 q) S.sl s) : Le (0 :: 1 :: κ :: List.range' 3 q) S s := by
  subst hq
  refine ⟨hn, ?_, ?_, hsl⟩
  · refine List.nodup_cons.2 ⟨?_, List.nodup_cons.2 ⟨?_, List.nodup_cons.2 ⟨?_, List.nodup_range'⟩⟩⟩
    · simp only [List.mem_cons, List.mem_range'_1]; omega
    · simp only [List.mem_cons, List.mem_range'_1]; omega
    · simp only [List.mem_cons, List.mem_range'_1]; omega
  · rw [hS]
    have pur : ∀ (l : List PV), (opl l).map (Go.Pv.ren (0 :: 1 :: κ :: List.range' 3 M.length)) = (opl l).take (opl l).length ∧ (opl l).all (scA (0 :: 1 :: κ :: List.range' 3 M.length).length) = true := fun l => by
      rw [opl_ren, List.take_of_length_le (Nat.le_refl _)]
      exact ⟨rfl, opl_sc _ _⟩
    refine ⟨?_, ?_, ?_, ?_⟩
    · simp only [LeB, h0]; exact pur G
    · simp only [LeB, h1]; exact pur O
    · simp only [LeB, h2]
      refine ⟨?_, ?_⟩
      · rw [List.take_of_length_le (Nat.le_refl _)]
        refine List.ext_getElem (by simp) fun i hi1 hi2 => ?_
        have hi : i < M.length := by simpa [rws_length] using hi2
        simp [rws, rwf, Go.Pv.ren, ren1, List.getD, List.getElem?_range' hi, Nat.add_comm]
      · rw [List.all_eq_true]
        intro x hx
        simp only [rws, rwf, List.mem_map, List.mem_range'] at hx
        obtain ⟨q, ⟨j, hj, rfl⟩, rfl⟩ := hx
        simp [scA, sc1]
        omega
    · refine leH_tl M _ (by simp) fun i hi => ?_
      have : (List.range' 3 M.length).getD i 0 = i + 3 := by simp [List.getD, List.getElem?_range' hi, Nat.add_comm]
      rw [this]
      exact h3 i hi
end
end Go.Pv
