/-
  Contracts: pure arguments to a pure result; calls; where a function begins and ends. Conditions: none; a library text.
-/
import Derived.Test.YtllompejbfbabaaDoorPvO
set_option linter.all false
namespace Go.Pv
open Go.RowKit

/-! ### What a value reads as, of whatever make -/

def peekS (H : Heap) : AV → Option (Prop × PV × Bool)
  | .p v => some (True, v, true)
  | .sl k lo len =>
    match hget H k with
    | .own c =>
      match allP ((c.drop lo).take len) with
      | some ps => some (lo + len ≤ c.length ∧ ps.all PV.one = true, .list ps, false)
      | none => none
    | .fro c => some (lo + len ≤ c.length ∧ ((c.drop lo).take len).all PV.one = true, .list ((c.drop lo).take len), true)
    | .dead => none
  | .ptr k i =>
    match hget H k with
    | .fro c => some (i ≤ c.length, .ptr (c.drop i), true)
    | _ => none
  | _ => none

def peekList (f : AV → Option (Prop × PV × Bool)) : List AV → Option (Prop × List PV × Bool)
  | [] => some (True, [], true)
  | x :: r =>
    match f x, peekList f r with
    | some (p, v, b), some (q, l, c) => some (p ∧ q, v :: l, b && c)
    | _, _ => none

def peekG (H : Heap) : AV → Option (Prop × PV × Bool)
  | .agg l => match peekList (peekS H) l with | some (p, ps, b) => some (p, .agg ps, b) | none => none
  | x => peekS H x

def peekA (H : Heap) : AV → Option (Prop × PV × Bool)
  | .tup l => match peekList (peekG H) l with | some (p, ps, b) => some (p, .tup ps, b) | none => none
  | x => peekG H x

section
variable {P : Program} {T : TypeId → Option TI} {C : Ctx} {m : Map} {s : St} {tmps : Array Value} {w : World}

def okE (C : Ctx) (w : World) (b : Nat) : Prop := (C.okA b ∨ C.B ≤ b) ∧ b < w.heap.size

/-- A value reads so: in any case; and over blocks that stay, where the mark says so. -/
def Peeks (C : Ctx) (m : Map) (H : Heap) (w : World) (pv : PV) (b : Bool) (v : Value) : Prop := Reads (okE C w) w pv v ∧ (b = true → Reads (OK C m H w) w pv v)

theorem ok_okE {H : Heap} (b : Nat) (h : OK C m H w b) : okE C w b := ⟨h.1, h.2.1⟩

theorem Peeks.of {H : Heap} {pv : PV} {b : Bool} {v : Value} (h : Reads (OK C m H w) w pv v) : Peeks C m H w pv b v := ⟨h.mono (fun b hb => ok_okE b hb), fun _ => h⟩

theorem row_reads {ok : Nat → Prop} {ps : List PV} {g o len cap : Nat} (hl : ps.length = len) (hone : ps.all PV.one = true) (hok : ok g) (hcap : len ≤ cap) (vs : Nat → Value)
    (hc : ∀ j, j < len → w.cell? ⟨g, o + j, none⟩ = some (vs j)) (hr : ∀ j (h : j < ps.length), Reads ok w ps[j] (vs j)) : Reads ok w (.list ps) (.slice (some ⟨g, o, none⟩) len cap) := by
  subst hl
  have hf := flat_all_one hone
  refine .list ps g o cap 1 vs hok (fun x hx => ?_) hcap (fun c hcl => ?_) fun c hcl => ?_
  · rw [cells_one ((List.all_eq_true.1 hone) x hx)]; rfl
  · rw [hf] at hcl; exact hc c hcl
  · simp only [hf] at hcl ⊢; exact hr c hcl

theorem peekS_val (R : Rel C m s tmps w) {x : AV} {v : Value} (hv : AVal (Reads (OK C m s.H w) w) m s.H x v) {p : Prop} {pv : PV} {b : Bool} (h : peekS s.H x = some (p, pv, b)) (hp : p) : Peeks C m s.H w pv b v := by
  unfold peekS at h
  split at h
  · simp only [Option.some.injEq, Prod.mk.injEq] at h
    obtain ⟨_, rfl, rfl⟩ := h
    exact .of hv.p_inv
  · rename_i k lo len
    cases hv with
    | sl _ _ _ _ hk hs =>
      split at h
      · rename_i c hg
        split at h <;> simp only [Option.some.injEq, Prod.mk.injEq, reduceCtorEq] at h
        rename_i ps hps
        obtain ⟨rfl, rfl, rfl⟩ := h
        obtain ⟨h1, h2⟩ := hp
        have hcs := allP_some hps
        have hlen : ps.length = len := by
          have := congrArg List.length hcs
          simp only [List.length_take, List.length_drop, List.length_map] at this
          omega
        refine ⟨?_, fun h => by cases h⟩
        rcases hs with ⟨rfl, ad, rfl⟩ | ⟨l, cap, hm, rfl, hc1, hc2⟩
        · have : ps = [] := List.eq_nil_of_length_eq_zero hlen
          subst this
          exact .list0 _ _ fun _ => rfl
        · rcases R.blk k c (hget_mut hg) with ⟨_, hn⟩ | ⟨l', cur, e, hm2, hB, hh, hs1, hs3, hs2, hcells⟩
          · rw [hm] at hn; cases hn
          · rw [hm] at hm2; cases hm2
            refine row_reads hlen h2 ⟨.inr hB, (Array.getElem?_eq_some_iff.1 hh).1⟩ hc1 (fun j => cur.getD (l.o + (lo + j)) undef) (fun j hj => ?_) fun j hj => ?_
            · rw [Nat.add_assoc]; exact cell_of hh (by omega)
            · have := hcells (lo + j) (by omega)
              have e : c[lo + j]'(by omega) = .p ps[j] := by
                have h3 : ((c.drop lo).take len)[j]? = (ps.map AV.p)[j]? := by rw [hcs]
                rw [List.getElem?_take, if_pos (by omega), List.getElem?_drop, List.getElem?_eq_getElem (by omega), List.getElem?_map, List.getElem?_eq_getElem hj] at h3
                simpa using h3
              rw [e] at this
              exact this.p_inv.mono (fun b hb => ok_okE b hb)
      · rename_i c hg
        simp only [Option.some.injEq, Prod.mk.injEq] at h
        obtain ⟨rfl, rfl, rfl⟩ := h
        obtain ⟨h1, h2⟩ := hp
        have hlen : ((c.drop lo).take len).length = len := by simp only [List.length_take, List.length_drop]; omega
        refine .of ?_
        rcases hs with ⟨rfl, ad, rfl⟩ | ⟨l, cap, hm, rfl, hc1, hc2⟩
        · simp only [List.take_zero]
          exact .list0 _ _ fun _ => rfl
        · rcases R.fro k c (hget_fro hg) with ⟨_, hn⟩ | ⟨l', vs, hm2, hB, hl, hcells⟩
          · rw [hm] at hn; cases hn
          · rw [hm] at hm2; cases hm2
            refine row_reads hlen h2 hB hc1 (fun j => vs (lo + j)) (fun j hj => ?_) fun j hj => ?_
            · rw [Nat.add_assoc]; exact (hcells (lo + j) (by omega)).1
            · rw [hlen] at hj
              simp only [List.getElem_take, List.getElem_drop]
              exact (hcells (lo + j) (by omega)).2
      · cases h
  · rename_i k i
    split at h <;> simp only [Option.some.injEq, Prod.mk.injEq, reduceCtorEq] at h
    rename_i c hg
    obtain ⟨rfl, rfl, rfl⟩ := h
    cases hv with
    | ptr _ _ _ hk hs =>
      obtain ⟨l, hm, rfl⟩ := hs
      rcases R.fro k c (hget_fro hg) with ⟨_, hn⟩ | ⟨l', vs, hm2, hB, hl, hcells⟩
      · rw [hm] at hn; cases hn
      · rw [hm] at hm2; cases hm2
        refine .of (.ptr _ _ _ (fun j => vs (i + j)) hB (fun j hj => ?_) fun j hj => ?_)
        · simp only [List.length_drop] at hj
          rw [Nat.add_assoc]; exact (hcells (i + j) (by omega)).1
        · simp only [List.length_drop] at hj
          simp only [List.getElem_drop]
          exact (hcells (i + j) (by omega)).2
  · cases h

theorem peekList_val {f : AV → Option (Prop × PV × Bool)} {H : Heap} {R0 : AV → Value → Prop} (hf : ∀ {x v p pv b}, R0 x v → f x = some (p, pv, b) → p → Peeks C m H w pv b v) :
    ∀ (l : List AV) (vs : Nat → Value) {p : Prop} {ps : List PV} {b : Bool}, (∀ c (h : c < l.length), R0 l[c] (vs c)) → peekList f l = some (p, ps, b) → p → ps.length = l.length ∧ (∀ c (h : c < ps.length), Reads (okE C w) w ps[c] (vs c)) ∧ (b = true → ∀ c (h : c < ps.length), Reads (OK C m H w) w ps[c] (vs c))
  | [], vs, p, ps, b, _, h, _ => by
    simp only [peekList, Option.some.injEq, Prod.mk.injEq] at h
    obtain ⟨_, rfl, _⟩ := h
    exact ⟨rfl, fun c h => by simp at h, fun _ c h => by simp at h⟩
  | x :: r, vs, p, ps, b, hr, h, hp => by
    simp only [peekList] at h
    split at h <;> simp only [Option.some.injEq, Prod.mk.injEq, reduceCtorEq] at h
    rename_i p1 v1 b1 q1 l1 c1 h1 h2
    obtain ⟨rfl, rfl, rfl⟩ := h
    have a1 := hf (hr 0 (by simp)) h1 hp.1
    obtain ⟨e1, e2, e3⟩ := peekList_val (R0 := R0) (f := f) (fun h1 h2 h3 => hf h1 h2 h3) r (fun c => vs (c + 1)) (fun c hc => by have := hr (c + 1) (by simpa using hc); simpa using this) h2 hp.2
    refine ⟨by simp [e1], fun c hc => ?_, fun hb c hc => ?_⟩
    · cases c with
      | zero => exact a1.1
      | succ c => exact e2 c (by simpa using hc)
    · rw [Bool.and_eq_true] at hb
      cases c with
      | zero => exact a1.2 hb.1
      | succ c => exact e3 hb.2 c (by simpa using hc)

theorem peekG_val (R : Rel C m s tmps w) {x : AV} {v : Value} (hv : AVal (Reads (OK C m s.H w) w) m s.H x v) {p : Prop} {pv : PV} {b : Bool} (h : peekG s.H x = some (p, pv, b)) (hp : p) : Peeks C m s.H w pv b v := by
  unfold peekG at h
  split at h
  · rename_i l
    split at h <;> simp only [Option.some.injEq, Prod.mk.injEq, reduceCtorEq] at h
    rename_i p1 ps b1 hl
    obtain ⟨rfl, rfl, rfl⟩ := h
    cases hv with
    | agg _ vs hsz hr =>
      obtain ⟨e1, e2, e3⟩ := peekList_val (fun {x v p pv b} (hx : AVal (Reads (OK C m s.H w) w) m s.H x v) h hp => peekS_val R hx h hp) l (fun c => vs.getD c undef) hr hl hp
      exact ⟨.agg _ _ (by omega) e2, fun hb => .agg _ _ (by omega) (e3 hb)⟩
  · exact peekS_val R hv h hp

theorem peekA_val (R : Rel C m s tmps w) {x : AV} {v : Value} (hv : AVal (Reads (OK C m s.H w) w) m s.H x v) {p : Prop} {pv : PV} {b : Bool} (h : peekA s.H x = some (p, pv, b)) (hp : p) : Peeks C m s.H w pv b v := by
  unfold peekA at h
  split at h
  · rename_i l
    split at h <;> simp only [Option.some.injEq, Prod.mk.injEq, reduceCtorEq] at h
    rename_i p1 ps b1 hl
    obtain ⟨rfl, rfl, rfl⟩ := h
    cases hv with
    | tup _ vs hsz hr =>
      obtain ⟨e1, e2, e3⟩ := peekList_val (fun {x v p pv b} (hx : AVal (Reads (OK C m s.H w) w) m s.H x v) h hp => peekG_val R hx h hp) l (fun c => vs.getD c undef) hr hl hp
      exact ⟨.tup _ _ (by omega) e2, fun hb => .tup _ _ (by omega) (e3 hb)⟩
  · exact peekG_val R hv h hp

/-- What meets no memory reads the same over whatever blocks. -/
theorem flatOnly_reads {ok ok' : Nat → Prop} {w' : World} {p : PV} {v : Value} (h : Reads ok w p v) (hf : p.flatOnly = true) : Reads ok' w' p v := by
  have sc : ∀ {p : PV} {v : Value}, Reads ok w p v → (match p with | .int _ _ => true | .bool _ => true | .str _ => true | _ => false) = true → Reads ok' w' p v := by
    intro p v h hf
    cases h <;> simp at hf
    · exact .int _ _
    · exact .bool _
    · exact .str _
  have ag : ∀ {l : List PV} {vs : Array Value}, Reads ok w (.agg l) (.agg vs) → (l.all fun | .int _ _ => true | .bool _ => true | .str _ => true | _ => false) = true → Reads ok' w' (.agg l) (.agg vs) := by
    intro l vs h hf
    cases h with
    | agg _ _ hl hr =>
      refine .agg _ _ hl fun c hc => sc (hr c hc) ?_
      have := (List.all_eq_true.1 hf) l[c] (List.getElem_mem hc)
      exact this
  cases h with
  | int k i => exact .int _ _
  | bool b => exact .bool _
  | str s => exact .str _
  | nil => exact .nil
  | agg l vs hl hr => exact ag (.agg l vs hl hr) hf
  | tup l vs hl hr =>
    refine .tup _ _ hl fun c hc => ?_
    have h1 := (List.all_eq_true.1 hf) l[c] (List.getElem_mem hc)
    have h2 := hr c hc
    generalize l[c] = x at h1 h2 ⊢
    generalize vs.getD c undef = v at h2 ⊢
    cases h2 with
    | int k i => exact .int _ _
    | bool b => exact .bool _
    | str s => exact .str _
    | agg l vs hl hr => exact ag (.agg l vs hl hr) h1
    | _ => simp at h1
  | _ => simp [PV.flatOnly] at hf

/-! ### Contracts -/

def Fun (P : Program) (g : FuncId) : Prop := ∃ fn, P.funcs[g]? = some fn ∧ (fn.name == "runtime.NumGoroutine") = false ∧ fn.body.isNone = false

/-- A CONTRACT: called with values that read so, the function returns what reads so; what was there is as it was. -/
def FnC (P : Program) (f : FuncId) (args : List PV) (r : PV) : Prop :=
  Fun P f ∧ ∀ (okA : Nat → Prop) (w : World) (vals : Array Value), LaidW okA w → vals.size = args.length → (∀ i (h : i < args.length), Reads okA w args[i] (vals.getD i undef)) →
    Calls P f vals w fun e w' => ∃ v, e = .returned v ∧ Below w.heap.size w w' ∧ Reads (okE ⟨okA, w.heap.size, w⟩ w') w' r v

/-- A call, on an abstract state: who is called; with what. -/
def callA (s : St) (fo : Operand) (args : Array Operand) : Option (FuncId × List PV × Prop × Bool) :=
  match s.ev fo with
  | .p (.fn g cap) =>
    match peekList (peekG s.H) (args.toList.map s.ev) with
    | some (p, pvs, b) => some (g, pvs ++ cap, p, b)
    | none => none
  | _ => none

theorem callA_congr {s s2 : St} {fo : Operand} {args : Array Operand} {ts : Array TypeId} (h : ∀ x ∈ (Op.call { callee := .value fo, args := args, argTypes := ts }).operands, s2.ev x = s.ev x) (hH : s2.H = s.H) : callA s2 fo args = callA s fo args := by
  simp only [Op.operands, Call.operands] at h
  have h1 : s2.ev fo = s.ev fo := h fo (by simp)
  have h2 : args.toList.map s2.ev = args.toList.map s.ev := List.map_congr_left fun x hx => h x (by simp; right; simpa using hx)
  unfold callA
  rw [h1, h2, hH]

theorem call_does {o : Oper} {fo : Operand} {args : Array Operand} {ts : Array TypeId} (ho : o.op = .call { callee := .value fo, args := args, argTypes := ts }) {g : FuncId} {as : List PV} {p : Prop} {b : Bool} {r : PV}
    (hc : FnC P g as r) (hcall : callA s fo args = some (g, as, p, b)) (hp : p) (hb : (b || r.flatOnly) = true) : DoesW P o s (.p r) s.H := by
  intro C m a w K Q R hK
  unfold callA at hcall
  split at hcall
  · rename_i g' cap hf
    split at hcall <;> simp only [Option.some.injEq, Prod.mk.injEq, reduceCtorEq] at hcall
    rename_i p' pvs b' hpl
    obtain ⟨rfl, rfl, rfl, rfl⟩ := hcall
    have hfv := R.ev fo
    rw [hf] at hfv
    generalize hfe : a.eval fo = fv at hfv
    have hfv := hfv.p_inv
    cases hfv with
    | fn _ _ vs hcl hcr =>
      obtain ⟨⟨fn, hfn, hnm, hbd⟩, hcalls⟩ := hc
      obtain ⟨e1, e2, e3⟩ := peekList_val (C := C) (m := m) (w := w) (H := s.H) (fun {x v p pv b} (hx : AVal (Reads (OK C m s.H w) w) m s.H x v) h hp => peekG_val R hx h hp) (args.toList.map s.ev) (fun c => (args.toList.map a.eval).getD c undef) (fun c hc => by
        simp only [List.length_map] at hc
        have := R.ev (args.toList[c])
        simpa [List.getD, List.getElem?_map, List.getElem?_eq_getElem hc] using this) hpl hp
      simp only [List.length_map] at e1
      have hvals : ∀ i (h : i < (pvs ++ cap).length), (args.map a.eval ++ vs).getD i undef = if i < pvs.length then (args.toList.map a.eval).getD i undef else vs.getD (i - pvs.length) undef := by
        intro i hi
        simp only [Array.getD_eq_getD_getElem?]
        by_cases hip : i < pvs.length
        · rw [if_pos hip, Array.getElem?_append_left (by simp at e1 ⊢; omega)]
          simp [List.getD]
        · rw [if_neg hip, Array.getElem?_append_right (by simp at e1 ⊢; omega)]
          congr 2
          simp at e1 ⊢; omega
      have hrun : (execOp a.eval o).run P w = .ok (.enter g' (args.map a.eval ++ vs)) w := by
        have hnm' : ¬ fn.name = "runtime.NumGoroutine" := by simpa using hnm
        have hbd' : ¬ fn.body = none := by intro e; rw [e] at hbd; simp at hbd
        simp [execOp, ho, resolve, hfe, Deferred.ofValue, invoke, callFunc, hfn, hnm', hbd']
      unfold Oper.wp
      rw [hrun]
      simp only [Oper.upon]
      have hsz : (args.map a.eval ++ vs).size = (pvs ++ cap).length := by simp at e1 ⊢; omega
      have done : ∀ (okA : Nat → Prop), LaidW okA w → (∀ i (h : i < (pvs ++ cap).length), Reads okA w (pvs ++ cap)[i] ((args.map a.eval ++ vs).getD i undef)) →
          (∀ w' v, Below w.heap.size w w' → Reads (okE ⟨okA, w.heap.size, w⟩ w') w' r v → Reads (OK C m s.H w') w' r v) → Calls P g' (args.map a.eval ++ vs) w fun
            | .returned v, w'' => K (a.put o.dst v) w''
            | .panicked chain, w'' => Q (.panic chain) a w''
            | .outgrown, _ => LetsOut Q := by
        intro okA h1 h2 h3
        refine (hcalls okA w _ h1 hsz h2).mono fun e w' ⟨v, he, hbl, hv⟩ => ?_
        subst he
        exact hK v m w' (R.later hbl) (.p _ _ (h3 w' v hbl hv))
      cases b' with
      | true =>
        refine done (OK C m s.H w) R.laidOK (fun i hi => ?_) fun w' v hbl hv => ?_
        · rw [hvals i hi]
          by_cases hip : i < pvs.length
          · rw [if_pos hip, List.getElem_append_left hip]; exact e3 rfl i hip
          · rw [if_neg hip, List.getElem_append_right (by omega)]; exact hcr _ (by simp at hi; omega)
        · refine hv.mono fun b hb => ?_
          obtain ⟨hb1, hb2⟩ := hb
          rcases hb1 with hb1 | hb1
          · exact Rel.okExt hbl b hb1
          · refine ⟨.inr (Nat.le_trans R.base hb1), hb2, fun k c l hk hl e' => ?_⟩
            rcases R.blk k c hk with ⟨_, hn⟩ | ⟨l2, cur, e2, hl2, _, hg, _⟩
            · rw [hl] at hn; cases hn
            · rw [hl] at hl2; cases hl2
              have := (Array.getElem?_eq_some_iff.1 hg).1
              simp only at hb1
              omega
      | false =>
        have hfl : r.flatOnly = true := by simpa using hb
        refine done (fun b => b < w.heap.size) R.laidLt (fun i hi => ?_) fun w' v hbl hv => flatOnly_reads hv hfl
        rw [hvals i hi]
        by_cases hip : i < pvs.length
        · rw [if_pos hip, List.getElem_append_left hip]; exact (e2 i hip).mono fun b hb => hb.2
        · rw [if_neg hip, List.getElem_append_right (by omega)]; exact (hcr _ (by simp at hi; omega)).mono fun b hb => hb.2.1
  · cases hcall

theorem call_loc {o : Oper} {fo : Operand} {args : Array Operand} {ts : Array TypeId} (ho : o.op = .call { callee := .value fo, args := args, argTypes := ts }) {g : FuncId} {as : List PV} {p : Prop} {b : Bool} {r : PV}
    (hc : FnC P g as r) (hcall : callA s fo args = some (g, as, p, b)) (hp : p) (hb : (b || r.flatOnly) = true) : Loc1 P o s (.p r) s.H := by
  refine ⟨fun s2 hn ha hH => ?_, fun hf => ?_, fun _ => rfl⟩
  · have := callA_congr (ts := ts) (s := s) (s2 := s2) (fo := fo) (args := args) (by rw [← ho]; exact ha) hH
    rw [hcall] at this
    rw [← hH]
    exact call_does ho hc this hp hb
  · rw [ho] at hf; simp [isT] at hf

/-- THE WORD OF THE WALK: a call of a function that has a contract. -/
theorem runs_call {draw : Bool} {all : Array Oper} {rest : List Oper} {K : St → Prop} {dst : Option Tmp} {ty : TypeId} {pos : String} {aft : Array Edge} {gd : Option (Nat × Bool)} {fo : Operand} {args : Array Operand} {ts : Array TypeId} {g : FuncId} {as : List PV} {p : Prop} {b : Bool} {r : PV}
    (hc : FnC P g as r) (hg : guardA all s { dst := dst, op := .call { callee := .value fo, args := args, argTypes := ts }, type := ty, pos := pos, after := aft, guard := gd } = some true)
    (hcall : callA s fo args = some (g, as, p, b)) (hb : (b || r.flatOnly) = true) (hd : dstOk s dst) (hp : p) (h : Runs P draw all rest K (s.put dst (.p r))) :
    Runs P draw all ({ dst := dst, op := .call { callee := .value fo, args := args, argTypes := ts }, type := ty, pos := pos, after := aft, guard := gd } :: rest) K s := by
  obtain ⟨s', hr, hK⟩ := h
  exact ⟨s', .cons (.op s (.p r) s.H hg (dstOk_spec hd) (call_does rfl hc hcall hp hb) fun _ => call_loc rfl hc hcall hp hb) hr, hK⟩

/-! ### Where a function begins and ends -/

def ent : Nat → List PV → List (Nat × AV)
  | _, [] => []
  | k, a :: r => (k, .p a) :: ent (k + 1) r

def entry (n : Nat) (args : List PV) : St := ⟨n, ent 0 args, []⟩

def rvA (T : TypeId → Option TI) (s : St) : ResultVar → Option (Prop × AV)
  | .tmp t => some (True, s.get t)
  | .cell x t =>
    match T t with
    | some ti => match loadA ti s.H (s.get x) with | some r => some (r.vc, r.av) | none => none
    | none => none

def rvsA (T : TypeId → Option TI) (s : St) : List ResultVar → Option (Prop × List AV)
  | [] => some (True, [])
  | x :: r =>
    match rvA T s x, rvsA T s r with
    | some (p, v), some (q, l) => some (p ∧ q, v :: l)
    | _, _ => none

def mkTup (l : List AV) : AV :=
  match l with
  | [x] => x
  | l => match allP l with | some ps => .p (.tup ps) | none => .tup l

def PV.norm0 : PV → PV
  | .nil => .list []
  | .nn l => .list l
  | .nz => .list []
  | p => p

def PV.norm1 : PV → PV
  | .agg l => .agg (l.map PV.norm0)
  | p => p.norm0

/-- Slices, as results: nil or not. -/
def PV.norm : PV → PV
  | .tup l => .tup (l.map PV.norm1)
  | p => p.norm1

theorem norm0_reads {ok : Nat → Prop} {pv : PV} {v : Value} (h : Reads ok w pv v) : Reads ok w pv.norm0 v := by
  unfold PV.norm0
  split
  · exact h.nil_list
  · exact h.nn_list
  · cases h with
    | nz a cap => exact .list0 _ _ fun h => by cases h
  · exact h

theorem norm1_reads {ok : Nat → Prop} {pv : PV} {v : Value} (h : Reads ok w pv v) : Reads ok w pv.norm1 v := by
  unfold PV.norm1
  split
  · cases h with
    | agg l vs hl hr =>
      refine .agg _ _ (by simpa using hl) fun c hc => ?_
      rw [List.getElem_map]
      exact norm0_reads (hr c (by simpa using hc))
  · exact norm0_reads h

theorem norm_reads {ok : Nat → Prop} {pv : PV} {v : Value} (h : Reads ok w pv v) : Reads ok w pv.norm v := by
  unfold PV.norm
  split
  · cases h with
    | tup l vs hl hr =>
      refine .tup _ _ (by simpa using hl) fun c hc => ?_
      rw [List.getElem_map]
      exact norm1_reads (hr c (by simpa using hc))
  · exact norm1_reads h

/-- What the results are, at a function's end. -/
def endA (T : TypeId → Option TI) (rs : List ResultVar) (r : PV) (s : St) : Prop :=
  match rvsA T s rs with
  | some (p, l) => match peekA s.H (mkTup l) with | some (q, pv, _) => p ∧ q ∧ pv.norm = r | none => False
  | none => False

def Post (T : TypeId → Option TI) (rs : List ResultVar) (r : PV) : Exit → St → Prop
  | .normal, s => endA T rs r s
  | .ret, s => endA T rs r s
  | _, _ => False

theorem ent_lk : ∀ (l : List PV) (k t : Nat), lk (ent k l) t = if k ≤ t then (match l[t - k]? with | some a => .p a | none => .dead) else .dead
  | [], k, t => by simp [ent, lk]
  | a :: r, k, t => by
    simp only [ent, lk]
    by_cases h : k = t
    · subst h; simp
    · rw [show (k == t) = false by simpa using h]
      simp only [cond_false]
      rw [ent_lk r (k + 1) t]
      by_cases hk : k ≤ t
      · rw [if_pos (by omega), if_pos hk, show t - k = (t - (k + 1)) + 1 by omega]; rfl
      · rw [if_neg (by omega), if_neg hk]

def rvRun (tmps : Array Value) : ResultVar → Sem Value
  | .tmp t => pure (tmps.getD t undef)
  | .cell a t => do loadVar t (← asAddr (tmps.getD a undef))

theorem results_eq (fn : Func) (tmps : Array Value) : results fn tmps = (do
    let vs ← fn.results.mapM (rvRun tmps)
    pure (if h : vs.size = 1 then vs[0] else .tuple vs)) := by
  unfold results
  have : (fun x => match x with
    | .tmp t => pure (tmps.getD t undef)
    | .cell a t => do loadVar t (← asAddr (tmps.getD a undef)) : ResultVar → Sem Value) = rvRun tmps := by
    funext x; cases x <;> rfl
  rw [← this]
  rfl

theorem rvA_run (hT : ∀ t ti, T t = some ti → tiOf P t = some ti) {a : Act} (R : Rel C m s a.tmps w) {x : ResultVar} {p : Prop} {av : AV} (h : rvA T s x = some (p, av)) (hp : p) :
    ∃ v, (rvRun a.tmps x).run P w = .ok v w ∧ AVal (Reads (OK C m s.H w) w) m s.H av v := by
  cases x with
  | tmp t =>
    simp only [rvA, Option.some.injEq, Prod.mk.injEq] at h
    obtain ⟨_, rfl⟩ := h
    exact ⟨_, rfl, R.slot t⟩
  | cell b t =>
    simp only [rvA] at h
    split at h
    · rename_i ti ht
      split at h <;> simp only [Option.some.injEq, Prod.mk.injEq, reduceCtorEq] at h
      rename_i r hr
      obtain ⟨rfl, rfl⟩ := h
      obtain ⟨_, v, hrun, hv⟩ := loadA_does hT R (o := { dst := none, op := .load t (.tmp b), type := 0, pos := "", after := #[], guard := none }) (x := .tmp b) rfl ht (by simpa [St.ev] using hr) hp
      refine ⟨v, ?_, hv⟩
      simp only [execOp, Instr.loadAt, Act.eval, Sem.run_bind] at hrun
      cases hpv : a.tmps.getD b undef with
      | pointer ad =>
        rw [hpv] at hrun
        cases ad with
        | some ad =>
          simp only [Instr.sureAddr, Sem.run_pure, Result.andThen_ok] at hrun
          simp only [rvRun, hpv, asAddr, Sem.run_bind, Sem.run_pure, Result.andThen_ok]
          cases hl : (loadVar t ad).run P w <;> rw [hl] at hrun <;> simp [Result.andThen] at hrun
          rw [hrun.1, hrun.2]
        | none => simp [Instr.sureAddr] at hrun
      | _ => rw [hpv] at hrun; simp [Instr.sureAddr] at hrun
    · cases h

theorem rvsA_run (hT : ∀ t ti, T t = some ti → tiOf P t = some ti) {a : Act} (R : Rel C m s a.tmps w) : ∀ (l : List ResultVar) {p : Prop} {avs : List AV}, rvsA T s l = some (p, avs) → p →
    ∃ vs : List Value, (l.mapM (rvRun a.tmps)).run P w = .ok vs w ∧ vs.length = avs.length ∧ ∀ c (h : c < avs.length), AVal (Reads (OK C m s.H w) w) m s.H avs[c] (vs.getD c undef)
  | [], p, avs, h, _ => by
    simp only [rvsA, Option.some.injEq, Prod.mk.injEq] at h
    obtain ⟨_, rfl⟩ := h
    exact ⟨[], rfl, rfl, fun c h => by simp at h⟩
  | x :: r, p, avs, h, hp => by
    simp only [rvsA] at h
    split at h <;> simp only [Option.some.injEq, Prod.mk.injEq, reduceCtorEq] at h
    rename_i p1 v1 q1 l1 h1 h2
    obtain ⟨rfl, rfl⟩ := h
    obtain ⟨v, e1, e2⟩ := rvA_run hT R h1 hp.1
    obtain ⟨vs, f1, f2, f3⟩ := rvsA_run hT R r h2 hp.2
    refine ⟨v :: vs, ?_, by simp [f2], fun c hc => ?_⟩
    · rw [List.mapM_cons]
      simp only [Sem.run_bind, e1, Result.andThen_ok, f1, Sem.run_pure]
    · cases c with
      | zero => exact e2
      | succ c => simpa [List.getD] using f3 c (by simpa using hc)

theorem mkTup_val {ok : Nat → Prop} {H : Heap} {l : List AV} {vs : List Value} (hl : vs.length = l.length) (hr : ∀ c (h : c < l.length), AVal (Reads ok w) m H l[c] (vs.getD c undef)) :
    AVal (Reads ok w) m H (mkTup l) (if h : vs.toArray.size = 1 then vs.toArray[0] else .tuple vs.toArray) := by
  unfold mkTup
  split
  · rename_i x
    match vs, hl with
    | [v], _ => simpa using hr 0 (by simp)
  · rename_i hne
    have h1 : ¬ vs.toArray.size = 1 := by
      intro e
      have : l.length = 1 := by simp at e; omega
      obtain ⟨x, rfl⟩ := List.length_eq_one_iff.1 this
      exact hne x rfl
    rw [dif_neg h1]
    have hr' : ∀ c (h : c < l.length), AVal (Reads ok w) m H l[c] (vs.toArray.getD c undef) := by
      intro c hc
      have := hr c hc
      simpa [List.getD, Array.getD_eq_getD_getElem?] using this
    split
    · rename_i ps hps
      have e := allP_some hps
      subst e
      refine .p _ _ (.tup _ _ (by simpa using hl) fun c hc => ?_)
      have := hr' c (by simpa using hc)
      simp only [List.getElem_map] at this
      exact this.p_inv
    · exact .tup _ _ (by simpa using hl) hr'

/-- HOW A CONTRACT IS PROVED. -/
theorem fnc_of (hT : ∀ t ti, T t = some ti → tiOf P t = some ti) {f : FuncId} {fn : Func} {c : Code} {args : List PV} {r : PV} (hf : P.funcs[f]? = some fn) (hb : fn.body = some c) (hnm : (fn.name == "runtime.NumGoroutine") = false) (hn : args.length ≤ fn.ntmps)
    (h : Holds P c (Post T fn.results.toList r) (entry fn.ntmps args)) : FnC P f args r := by
  refine ⟨⟨fn, hf, hnm, by rw [hb]; rfl⟩, fun okA w vals hok hsz hrd => calls_of_wp hf hb ?_⟩
  have hslot : ∀ t, (vals ++ Array.replicate (fn.ntmps - vals.size) undef).getD t undef = if t < vals.size then vals.getD t undef else undef := by
    intro t
    simp only [Array.getD_eq_getD_getElem?]
    by_cases ht : t < vals.size
    · rw [if_pos ht, Array.getElem?_append_left ht]
    · rw [if_neg ht, Array.getElem?_append_right (by omega), Array.getElem?_replicate]
      split <;> rfl
  have R : Rel ⟨okA, w.heap.size, w⟩ (fun _ => none) (entry fn.ntmps args) (vals ++ Array.replicate (fn.ntmps - vals.size) undef) w := by
    have hOK : ∀ b, okA b → OK ⟨okA, w.heap.size, w⟩ (fun _ => none) [] w b := fun b hb => ⟨.inl hb, hok.1 b hb, fun k c l h => by simp at h⟩
    refine ⟨⟨hok, rfl⟩, Below.refl _ _, Nat.le_refl _, by simp [entry]; omega, fun k k' c c' l l' h => by simp [entry] at h, fun k c h => by simp [entry] at h, fun k c h => by simp [entry] at h, fun t => ?_⟩
    rw [hslot]
    unfold St.get entry
    simp only
    rw [ent_lk]
    simp only [Nat.zero_le, if_true, Nat.sub_zero]
    by_cases ht : t < args.length
    · rw [List.getElem?_eq_getElem ht, if_pos (by omega)]
      exact .p _ _ ((hrd t ht).mono hOK)
    · rw [List.getElem?_eq_none (by omega)]
      exact .dead _
  refine wp_mono (h _ _ { tmps := vals ++ Array.replicate (fn.ntmps - vals.size) undef, defers := [] } w R rfl) fun e a' w' ⟨s', m', h1, h2, h3⟩ => ?_
  have fini : endA T fn.results.toList r s' → a'.defers = [] ∧ ∃ v, (results fn a'.tmps).run P w' = .ok v w' ∧ ∃ v_1, Ending.returned v = .returned v_1 ∧ Below w.heap.size w w' ∧ Reads (okE ⟨okA, w.heap.size, w⟩ w') w' r v_1 := by
    intro he
    unfold endA at he
    split at he
    · rename_i p l hl
      split at he
      · rename_i q pv b hpk
        obtain ⟨hp, hq, rfl⟩ := he
        obtain ⟨vs, e1, e2, e3⟩ := rvsA_run hT h2 fn.results.toList hl hp
        have hv := mkTup_val (w := w') e2 e3
        have hpv := peekA_val h2 hv hpk hq
        refine ⟨h3, _, ?_, _, rfl, h2.below, norm_reads hpv.1⟩
        rw [results_eq, Array.mapM_eq_mapM_toList]
        simp only [Sem.run_bind, Sem.run_map]
        rw [e1]
        simp only [Result.andThen_ok]
        rfl
      · exact he.elim
    · exact he.elim
  cases e with
  | normal => exact fini h1
  | ret => exact fini h1
  | _ => exact h1.elim

end

end Go.Pv
