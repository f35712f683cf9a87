/-
  Reading memory: addresses, cuts, loads, lengths. Conditions: none; a library text.
-/
import Derived.Test.YtllompejbfbabaaDoorPvE
set_option linter.all false
namespace Go.Pv
open Go.RowKit

theorem Reads.list_inv {ok : Nat → Prop} {w : World} {l : List PV} {v : Value} (h : Reads ok w (.list l) v) : (l = [] ∧ ∃ a cap, v = .slice a 0 cap) ∨
    ∃ b off cap sz, ∃ vs : Nat → Value, v = .slice (some ⟨b, off, none⟩) l.length cap ∧ ok b ∧ (∀ x ∈ l, x.cells.length = sz) ∧ l.length ≤ cap ∧
      (∀ c, c < (flat l).length → w.cell? ⟨b, off + c, none⟩ = some (vs c)) ∧ ∀ c (h : c < (flat l).length), Reads ok w (flat l)[c] (vs c) := by
  cases h with
  | list0 a cap h => exact .inl ⟨rfl, a, cap, rfl⟩
  | list _ b off cap sz vs hb hsz hcap hc hr => exact .inr ⟨b, off, cap, sz, vs, rfl, hb, hsz, hcap, hc, hr⟩

theorem Reads.nn_inv {ok : Nat → Prop} {w : World} {l : List PV} {v : Value} (h : Reads ok w (.nn l) v) : (l = [] ∧ ∃ a, v = .slice (some a) 0 0) ∨
    ∃ b off sz, ∃ vs : Nat → Value, v = .slice (some ⟨b, off, none⟩) l.length l.length ∧ ok b ∧ (∀ x ∈ l, x.cells.length = sz) ∧
      (∀ c, c < (flat l).length → w.cell? ⟨b, off + c, none⟩ = some (vs c)) ∧ ∀ c (h : c < (flat l).length), Reads ok w (flat l)[c] (vs c) := by
  cases h with
  | nn0 a => exact .inl ⟨rfl, a, rfl⟩
  | nn _ b off sz vs hb hsz hc hr => exact .inr ⟨b, off, sz, vs, rfl, hb, hsz, hc, hr⟩

/-- The cells of one element. -/
theorem elem_cells {ok : Nat → Prop} {w : World} {l : List PV} {b off sz i : Nat} {vs : Nat → Value} (hi : i < l.length) (hb : ok b) (hsz : ∀ x ∈ l, x.cells.length = sz)
    (hc : ∀ c, c < (flat l).length → w.cell? ⟨b, off + c, none⟩ = some (vs c)) (hr : ∀ c (h : c < (flat l).length), Reads ok w (flat l)[c] (vs c)) :
    Reads ok w (.ptr (l.getD i default).cells) (.pointer (some ⟨b, off + i * sz, none⟩)) := by
  have hx : l[i]? = some (l.getD i default) := by simp [List.getD, List.getElem?_eq_getElem hi]
  have hlen : (l.getD i default).cells.length = sz := hsz _ (List.mem_of_getElem? hx)
  have hfl := flat_length_eq sz l hsz
  have hlt : i * sz + sz ≤ (flat l).length := by
    rw [hfl]
    have : (i + 1) * sz ≤ l.length * sz := Nat.mul_le_mul_right _ hi
    rw [Nat.add_mul] at this; omega
  refine .ptr _ b (off + i * sz) (fun c => vs (i * sz + c)) hb (fun c hcl => ?_) fun c hcl => ?_
  · rw [Nat.add_assoc]; exact hc (i * sz + c) (by omega)
  · have e := flat_getElem? sz l i c _ hsz hx (by omega)
    have h2 := hr (i * sz + c) (by omega)
    rw [List.getElem?_eq_getElem (by omega), List.getElem?_eq_getElem hcl] at e
    rw [Option.some.inj e] at h2
    exact h2

theorem flat_drop (sz : Nat) : ∀ (l : List PV) (n : Nat), (∀ x ∈ l, x.cells.length = sz) → flat (l.drop n) = (flat l).drop (n * sz)
  | [], n, _ => by simp [flat]
  | x :: r, 0, _ => by simp
  | x :: r, n + 1, h => by
    have h1 := h x (by simp)
    have e : (n + 1) * sz = x.cells.length + n * sz := by rw [h1, Nat.add_mul]; omega
    simp only [List.drop_succ_cons, flat]
    rw [e, ← List.drop_drop, List.drop_left]
    exact flat_drop sz r n (fun y hy => h y (by simp [hy]))

theorem flat_take (sz : Nat) : ∀ (l : List PV) (n : Nat), (∀ x ∈ l, x.cells.length = sz) → flat (l.take n) = (flat l).take (n * sz)
  | [], n, _ => by simp [flat]
  | x :: r, 0, _ => by simp [flat]
  | x :: r, n + 1, h => by
    have h1 := h x (by simp)
    have e : (n + 1) * sz = x.cells.length + n * sz := by rw [h1, Nat.add_mul]; omega
    simp only [List.take_succ_cons, flat]
    rw [e, flat_take sz r n (fun y hy => h y (by simp [hy]))]
    exact List.take_length_add_append (n * sz) |>.symm

section
variable {P : Program} {T : TypeId → Option TI} (hT : ∀ t ti, T t = some ti → tiOf P t = some ti) {C : Ctx} {m : Map} {s : St} {a : Act} {w : World}

theorem eval_int {o : Operand} (R : Rel C m s a.tmps w) {k : IntKind} {i : Int} (h : s.ev o = .p (.int k i)) : a.eval o = .int k i := by
  have := R.ev o
  rw [h] at this
  exact this.p_inv.int_inv

include hT in
theorem indexAddrA_does (R : Rel C m s a.tmps w) {o : Oper} {t : TypeId} {x y : Operand} (ho : o.op = .indexAddr t x y) {ti : TI} (ht : T t = some ti) {r : OV} (h : indexAddrA T ti s.H (s.ev x) (s.ev y) = some r) (hvc : r.vc) :
    r.H = s.H ∧ ∃ v, (execOp a.eval o).run P w = .ok (.value v) w ∧ AVal (Reads (OK C m s.H w) w) m s.H r.av v := by
  have hx := R.ev x
  unfold indexAddrA at h
  split at h
  · rename_i ki i hye
    have ey := eval_int R hye
    split at h
    · rename_i e hk
      have hu := ti_slice (hT _ _ ht) hk
      split at h
      · rename_i te hte
        have hss := ti_size (hT _ _ hte)
        split at h <;> simp only [Option.some.injEq, reduceCtorEq] at h <;> subst h
        · rename_i k lo len hxe
          obtain ⟨h1, h2, h3⟩ := hvc
          rw [hxe] at hx
          generalize hv : a.eval x = v at hx
          cases hx with
          | sl _ _ _ _ hk' hs =>
            rcases hs with ⟨h0, _⟩ | ⟨l', cap, hm, rfl, hc1, hc2⟩
            · omega
            · refine ⟨rfl, .pointer (some ⟨l'.g, l'.o + lo + i.toNat, none⟩), ?_, .ptr _ _ _ hk' ⟨l', hm, by rw [Nat.add_assoc]⟩⟩
              simp [execOp, ho, hv, ey, Instr.indexAt, asIntOf, run_underlying hu, h2, h3, hss, h1, add_lit]
        · rename_i l hxe
          obtain ⟨h1, h2, h3⟩ := hvc
          rw [hxe] at hx
          rcases hx.p_inv.list_inv with ⟨rfl, _⟩ | ⟨b, off, cap, sz, vs, hv, hb, hsz, hcap, hc, hr⟩
          · simp at h2; omega
          · have hi : i.toNat < l.length := by omega
            have hsz' : sz = te.size := by
              rw [← h3]
              exact (hsz _ (List.mem_of_getElem? (show l[i.toNat]? = some (l.getD i.toNat default) by simp [List.getD, List.getElem?_eq_getElem hi]))).symm
            refine ⟨rfl, .pointer (some ⟨b, off + i.toNat * sz, none⟩), ?_, .p _ _ (elem_cells hi hb hsz hc hr)⟩
            simp [execOp, ho, hv, ey, Instr.indexAt, asIntOf, run_underlying hu, h1, h2, hss, hsz', add_lit]
        · rename_i l hxe
          obtain ⟨h1, h2, h3⟩ := hvc
          rw [hxe] at hx
          rcases hx.p_inv.nn_inv with ⟨rfl, _⟩ | ⟨b, off, sz, vs, hv, hb, hsz, hc, hr⟩
          · simp at h2; omega
          · have hi : i.toNat < l.length := by omega
            have hsz' : sz = te.size := by
              rw [← h3]
              exact (hsz _ (List.mem_of_getElem? (show l[i.toNat]? = some (l.getD i.toNat default) by simp [List.getD, List.getElem?_eq_getElem hi]))).symm
            refine ⟨rfl, .pointer (some ⟨b, off + i.toNat * sz, none⟩), ?_, .p _ _ (elem_cells hi hb hsz hc hr)⟩
            simp [execOp, ho, hv, ey, Instr.indexAt, asIntOf, run_underlying hu, h1, h2, hss, hsz', add_lit]
      · cases h
    · rename_i n e hk
      have hu := ti_array (hT _ _ ht) hk
      split at h
      · rename_i te hte
        have hss := ti_size (hT _ _ hte)
        split at h <;> simp only [Option.some.injEq, reduceCtorEq] at h <;> subst h
        · rename_i k j hxe
          obtain ⟨h2, h3⟩ := hvc
          rw [hxe] at hx
          generalize hv : a.eval x = v at hx
          cases hx with
          | ptr _ _ _ hk' hp =>
            obtain ⟨l', hm, rfl⟩ := hp
            refine ⟨rfl, .pointer (some ⟨l'.g, l'.o + j + i.toNat * te.size, none⟩), ?_, .ptr _ _ _ hk' ⟨l', hm, by rw [Nat.add_assoc]⟩⟩
            simp [execOp, ho, hv, ey, Instr.indexAt, Instr.sureAddr, asIntOf, run_underlying hu, h2, h3, hss, add_lit]
        · rename_i c hxe
          obtain ⟨h1, h2, h3⟩ := hvc
          rw [hxe] at hx
          obtain ⟨b, ofs, vs, hv, hb, hc, hr⟩ := hx.p_inv.ptr_inv
          refine ⟨rfl, .pointer (some ⟨b, ofs + i.toNat * te.size, none⟩), ?_, .p _ _ (.ptr _ _ _ (fun q => vs (i.toNat * te.size + q)) hb (fun q hq => ?_) fun q hq => ?_)⟩
          · simp [execOp, ho, hv, ey, Instr.indexAt, Instr.sureAddr, asIntOf, run_underlying hu, h1, h2, hss, add_lit]
          · simp only [List.length_drop] at hq
            rw [Nat.add_assoc]; exact hc (i.toNat * te.size + q) (by omega)
          · simp only [List.length_drop] at hq
            simp only [List.getElem_drop]
            exact hr (i.toNat * te.size + q) (by omega)
      · cases h
    · cases h
  · cases h

theorem asIntOf_run (k : IntKind) (i : Int) : (asIntOf (.int k i)).run P w = .ok (k, i) w := rfl

theorem boundA_some {d q : Int} {x : AV} (h : boundA d (some x) = some q) : ∃ k, x = .p (.int k q) := by
  unfold boundA at h
  split at h
  · rename_i e; cases e
  · rename_i k i e
    simp only [Option.some.injEq] at e h
    exact ⟨k, by rw [e, h]⟩
  · cases h

/-- The bounds of a cut, as the model reads them. -/
theorem bound_run (R : Rel C m s a.tmps w) {len cap : Nat} {lo hi : Option Operand} {p q : Int} (h1 : boundA 0 (lo.map s.ev) = some p) (h2 : boundA len (hi.map s.ev) = some q)
    (hp : 0 ≤ p) (hq : p ≤ q) (hl : q ≤ (len : Int)) (hc : len ≤ cap) : (Instr.sliceBounds true len cap (lo.map a.eval) (hi.map a.eval) none).run P w = .ok (p.toNat, q.toNat, cap) w := by
  have a1 : ∀ o, hi = some o → ∃ k, a.eval o = .int k q := by
    rintro o rfl
    obtain ⟨k, hk⟩ := boundA_some h2
    exact ⟨k, eval_int R hk⟩
  have a2 : ∀ o, lo = some o → ∃ k, a.eval o = .int k p := by
    rintro o rfl
    obtain ⟨k, hk⟩ := boundA_some h1
    exact ⟨k, eval_int R hk⟩
  have n1 : hi = none → q = len := by rintro rfl; simp only [Option.map_none, boundA, Option.some.injEq] at h2; exact h2.symm
  have n2 : lo = none → p = 0 := by rintro rfl; simp only [Option.map_none, boundA, Option.some.injEq] at h1; exact h1.symm
  have hq0 : 0 ≤ q := by omega
  have hqc : q ≤ (cap : Int) := by omega
  have eq' : ((q.toNat : Nat) : Int) = q := by omega
  cases hi with
  | none =>
    obtain rfl := n1 rfl
    cases lo with
    | none => obtain rfl := n2 rfl; simp [Instr.sliceBounds]
    | some o =>
      obtain ⟨k, ek⟩ := a2 o rfl
      simp [Instr.sliceBounds, ek, run_sliceBound _ k p len _ hp hq]
  | some o' =>
    obtain ⟨k', ek'⟩ := a1 o' rfl
    cases lo with
    | none => obtain rfl := n2 rfl; simp [Instr.sliceBounds, ek', run_sliceBound _ k' q cap _ hq0 hqc]
    | some o =>
      obtain ⟨k, ek⟩ := a2 o rfl
      simp [Instr.sliceBounds, ek, ek', run_sliceBound _ k' q cap _ hq0 hqc, run_sliceBound _ k p q.toNat _ hp (by omega)]

/-- A cut of a slice that is read. -/
theorem Reads.cut {ok : Nat → Prop} {l : List PV} {b off cap sz p q : Nat} {vs : Nat → Value} (hb : ok b) (hsz : ∀ x ∈ l, x.cells.length = sz) (hcap : l.length ≤ cap)
    (hc : ∀ c, c < (flat l).length → w.cell? ⟨b, off + c, none⟩ = some (vs c)) (hr : ∀ c (h : c < (flat l).length), Reads ok w (flat l)[c] (vs c)) (hpq : p ≤ q) (hq : q ≤ l.length) :
    Reads ok w (.list ((l.drop p).take (q - p))) (.slice (if cap = p then some ⟨b, off, none⟩ else some ⟨b, off + p * sz, none⟩) (q - p) (cap - p)) := by
  have hsz' : ∀ x ∈ l.drop p, x.cells.length = sz := fun x hx => hsz x (List.mem_of_mem_drop hx)
  have hlen : ((l.drop p).take (q - p)).length = q - p := by simp only [List.length_take, List.length_drop]; omega
  by_cases hcp : cap = p
  · have e : q - p = 0 := by omega
    rw [if_pos hcp, e]
    simp only [List.take_zero]
    exact .list0 _ _ (by intro h; first | rfl | (simp at h; done) | (split at h <;> cases h))
  · rw [if_neg hcp]
    have hsz2 : ∀ x ∈ (l.drop p).take (q - p), x.cells.length = sz := fun x hx => hsz' x (List.mem_of_mem_take hx)
    have hfl : flat ((l.drop p).take (q - p)) = ((flat l).drop (p * sz)).take ((q - p) * sz) := by rw [flat_take sz _ _ hsz', flat_drop sz _ _ hsz]
    have := Reads.list (ok := ok) (w := w) ((l.drop p).take (q - p)) b (off + p * sz) (cap - p) sz (fun c => vs (p * sz + c)) hb hsz2 (by omega) (fun c hcl => by
      rw [hfl] at hcl
      simp only [List.length_take, List.length_drop] at hcl
      rw [Nat.add_assoc]; exact hc _ (by omega)) (fun c hcl => by
      have hcl' := hcl
      rw [hfl] at hcl'
      simp only [List.length_take, List.length_drop] at hcl'
      have e : (flat ((l.drop p).take (q - p)))[c] = (flat l)[p * sz + c]'(by omega) := by
        simp only [hfl, List.getElem_take, List.getElem_drop]
      rw [e]
      exact hr _ (by omega))
    rwa [hlen] at this

theorem Reads.cutnn {ok : Nat → Prop} {l : List PV} {b off sz p : Nat} {vs : Nat → Value} (hb : ok b) (hsz : ∀ x ∈ l, x.cells.length = sz)
    (hc : ∀ c, c < (flat l).length → w.cell? ⟨b, off + c, none⟩ = some (vs c)) (hr : ∀ c (h : c < (flat l).length), Reads ok w (flat l)[c] (vs c)) :
    Reads ok w (.nn (l.drop p)) (.slice (if l.length = p then some ⟨b, off, none⟩ else some ⟨b, off + p * sz, none⟩) (l.length - p) (l.length - p)) := by
  have hlen : (l.drop p).length = l.length - p := by simp
  by_cases hcp : l.length = p
  · have e : l.drop p = [] := by rw [← hcp]; simp
    rw [if_pos hcp, e, hcp, Nat.sub_self]
    exact .nn0 _
  · rw [if_neg hcp]
    have hsz2 : ∀ x ∈ l.drop p, x.cells.length = sz := fun x hx => hsz x (List.mem_of_mem_drop hx)
    have hfl : flat (l.drop p) = (flat l).drop (p * sz) := flat_drop sz _ _ hsz
    have := Reads.nn (ok := ok) (w := w) (l.drop p) b (off + p * sz) sz (fun c => vs (p * sz + c)) hb hsz2 (fun c hcl => by
      rw [hfl] at hcl
      simp only [List.length_drop] at hcl
      rw [Nat.add_assoc]; exact hc _ (by omega)) (fun c hcl => by
      have hcl' := hcl
      rw [hfl] at hcl'
      simp only [List.length_drop] at hcl'
      have e : (flat (l.drop p))[c] = (flat l)[p * sz + c]'(by omega) := by
        simp only [hfl, List.getElem_drop]
      rw [e]
      exact hr _ (by omega))
    rwa [hlen] at this

theorem all_sz {l : List PV} {n : Nat} (h : l.all (fun x => x.cells.length == n) = true) : ∀ x ∈ l, x.cells.length = n := by
  intro x hx
  have := (List.all_eq_true.1 h) x hx
  simpa using this

theorem sz_uniq {l : List PV} {n k : Nat} (h : ∀ x ∈ l, x.cells.length = n) (h' : ∀ x ∈ l, x.cells.length = k) (hne : l ≠ []) : n = k := by
  cases l with
  | nil => exact absurd rfl hne
  | cons x r => rw [← h x (by simp), ← h' x (by simp)]

include hT in
theorem sliceA_does (R : Rel C m s a.tmps w) {o : Oper} {t : TypeId} {x : Operand} {lo hi : Option Operand} (ho : o.op = .slice t x lo hi none) {ti : TI} (ht : T t = some ti) {r : OV} (h : sliceA T ti s.H (s.ev x) (lo.map s.ev) (hi.map s.ev) = some r) (hvc : r.vc) :
    r.H = s.H ∧ ∃ v, (execOp a.eval o).run P w = .ok (.value v) w ∧ AVal (Reads (OK C m s.H w) w) m s.H r.av v := by
  have hx := R.ev x
  have run : ∀ (e : TypeId) (te : TI) (ad : Option Addr) (len cap p q : Nat), P.underlying t = some (.slice e) → T e = some te → a.eval x = .slice ad len cap →
      (Instr.sliceBounds true len cap (lo.map a.eval) (hi.map a.eval) none).run P w = .ok (p, q, cap) w →
      (execOp a.eval o).run P w = .ok (.value (.slice (if cap = p then ad else ad.map (·.add (p * te.size))) (q - p) (cap - p))) w := by
    intro e te ad len cap p q hu hte hv hbd
    simp [execOp, ho, hv, Instr.sliceAt, Instr.slice, run_underlying hu, hbd, ti_size (hT _ _ hte)]
  unfold sliceA at h
  split at h
  · rename_i e hk
    have hu := ti_slice (hT _ _ ht) hk
    split at h
    · rename_i te hte
      split at h
      · -- the call's own
        rename_i k l len hxe
        split at h <;> simp only [Option.some.injEq, reduceCtorEq] at h
        rename_i p q h1 h2
        subst h
        obtain ⟨g1, g2, g3, g4⟩ := hvc
        rw [hxe] at hx
        generalize hv : a.eval x = v at hx
        cases hx with
        | sl _ _ _ _ hk' hs =>
          rcases hs with ⟨h0, ad, rfl⟩ | ⟨l', cap, hm, rfl, hc1, hc2⟩
          · subst h0
            have hbd := bound_run (P := P) (cap := 0) R h1 h2 g2 g3 g4 (Nat.le_refl _)
            refine ⟨rfl, _, run e te ad 0 0 p.toNat q.toNat hu hte hv hbd, .sl _ _ _ _ hk' <| .inl ⟨by omega, ?_⟩⟩
            have : q.toNat - p.toNat = 0 := by omega
            rw [this, Nat.zero_sub]
            exact ⟨_, rfl⟩
          · have hbd := bound_run (P := P) (cap := cap) R h1 h2 g2 g3 g4 hc1
            refine ⟨rfl, _, run e te _ len cap p.toNat q.toNat hu hte hv hbd, .sl _ _ _ _ hk' ?_⟩
            by_cases hcp : cap = p.toNat
            · left
              have : q.toNat - p.toNat = 0 := by omega
              rw [this, hcp, Nat.sub_self]
              exact ⟨rfl, _, rfl⟩
            · right
              refine ⟨l', cap - p.toNat, hm, ?_, by omega, by omega⟩
              rw [if_neg hcp, g1]
              simp only [Option.map_some, add_lit, Nat.mul_one, Nat.add_assoc]
      · -- a list
        rename_i l hxe
        split at h <;> simp only [Option.some.injEq, reduceCtorEq] at h
        rename_i p q h1 h2
        subst h
        obtain ⟨g1, g2, g3, g4⟩ := hvc
        have g4 := all_sz g4
        rw [hxe] at hx
        rcases hx.p_inv.list_inv with ⟨rfl, ad, cap, hv⟩ | ⟨b, off, cap, sz, vs, hv, hb, hsz, hcap, hc, hr⟩
        · have hbd := bound_run (P := P) (len := 0) (cap := cap) R h1 h2 g1 g2 g3 (Nat.zero_le _)
          simp only [List.length_nil] at g3
          have : q.toNat - p.toNat = 0 := by omega
          refine ⟨rfl, _, run e te ad 0 cap p.toNat q.toNat hu hte hv hbd, .p _ _ ?_⟩
          rw [this]
          simp only [List.drop_nil, List.take_nil]
          refine .list0 _ _ fun h => ?_
          have h0 := Reads.list_cap (hv ▸ hx.p_inv)
          cases ad with
          | none => have := h0 rfl; omega
          | some b => split at h <;> cases h
        · have hbd := bound_run (P := P) (cap := cap) R h1 h2 g1 g2 g3 hcap
          refine ⟨rfl, _, run e te _ l.length cap p.toNat q.toNat hu hte hv hbd, .p _ _ ?_⟩
          have := Reads.cut (p := p.toNat) (q := q.toNat) hb hsz hcap hc hr (by omega) (by omega)
          by_cases hcp : cap = p.toNat
          · rw [if_pos hcp] at this ⊢; exact this
          · rw [if_neg hcp] at this ⊢
            have e : p.toNat * te.size = p.toNat * sz := by
              by_cases hl : l = []
              · have : p.toNat = 0 := by subst hl; simp at g3; omega
                rw [this]; simp
              · rw [sz_uniq hsz g4 hl]
            simp only [Option.map_some, add_lit, e]
            exact this
      · -- a literal
        rename_i l hxe
        rw [hxe] at hx
        split at h
        · rename_i p h1 hhi
          simp only [Option.some.injEq] at h
          subst h
          have hhi' : hi = none := by cases hi <;> simp at hhi ⊢
          obtain ⟨g1, g2, g3⟩ := hvc
          have g3 := all_sz g3
          rcases hx.p_inv.nn_inv with ⟨rfl, ad, hv⟩ | ⟨b, off, sz, vs, hv, hb, hsz, hc, hr⟩
          · have hbd := bound_run (P := P) (len := 0) (cap := 0) (hi := none) R h1 rfl g1 (by simpa using g2) (by simp) (Nat.zero_le _)
            refine ⟨rfl, _, run e te _ 0 0 p.toNat 0 hu hte hv (by rw [hhi']; simpa using hbd), .p _ _ ?_⟩
            simp only [List.drop_nil]
            simp only [List.length_nil] at g2
            have hp0 : p.toNat = 0 := by omega
            rw [hp0]
            exact .nn0 _
          · have hbd := bound_run (P := P) (len := l.length) (cap := l.length) (hi := none) R h1 rfl g1 (by simpa using g2) (by simp) (Nat.le_refl _)
            refine ⟨rfl, _, run e te _ l.length l.length p.toNat l.length hu hte hv (by rw [hhi']; simpa using hbd), .p _ _ ?_⟩
            have := Reads.cutnn (p := p.toNat) hb hsz hc hr
            by_cases hcp : l.length = p.toNat
            · rw [if_pos hcp] at this ⊢; exact this
            · rw [if_neg hcp] at this ⊢
              have e : sz = te.size := sz_uniq hsz g3 (by rintro rfl; simp at hcp g2; omega)
              simp only [Option.map_some, add_lit, ← e]
              exact this
        · rename_i p kk q h1 hhi
          simp only [Option.some.injEq] at h
          subst h
          obtain ⟨g1, g2, g3, g4⟩ := hvc
          have g4 := all_sz g4
          have h2 : ∀ n : Nat, boundA (n : Int) (hi.map s.ev) = some q := fun n => by rw [hhi]; rfl
          rcases hx.p_inv.nn_inv with ⟨rfl, ad, hv⟩ | ⟨b, off, sz, vs, hv, hb, hsz, hc, hr⟩
          · have hbd := bound_run (P := P) (len := 0) (cap := 0) R h1 (h2 0) g1 g2 g3 (Nat.zero_le _)
            simp only [List.length_nil] at g3
            have : q.toNat - p.toNat = 0 := by omega
            refine ⟨rfl, _, run e te _ 0 0 p.toNat q.toNat hu hte hv hbd, .p _ _ ?_⟩
            rw [this]
            simp only [List.drop_nil, List.take_nil]
            exact .list0 _ _ (by intro h; first | rfl | (simp at h; done) | (split at h <;> cases h))
          · have hbd := bound_run (P := P) (len := l.length) (cap := l.length) R h1 (h2 _) g1 g2 g3 (Nat.le_refl _)
            refine ⟨rfl, _, run e te _ l.length l.length p.toNat q.toNat hu hte hv hbd, .p _ _ ?_⟩
            have := Reads.cut (p := p.toNat) (q := q.toNat) hb hsz (Nat.le_refl _) hc hr (by omega) (by omega)
            by_cases hcp : l.length = p.toNat
            · rw [if_pos hcp] at this ⊢; exact this
            · rw [if_neg hcp] at this ⊢
              have e : sz = te.size := sz_uniq hsz g4 (by rintro rfl; simp at hcp g3; omega)
              simp only [Option.map_some, add_lit, ← e]
              exact this
        · cases h
      · cases h
    · cases h
  · cases h

end

end Go.Pv
