/-
  Calls that hand out fresh rows of plain values; spans once more. Conditions: none.
-/
import Derived.Test.YthdmioeddgednaaS4
import Derived.Test.YthdmioeddgednaaE11
set_option linter.all false
namespace Go.Pv
open Go.RowKit

section
variable {P : Program} {s : St}

/-- A contract whose result lies in memory that is new: whatever the arguments may be. -/
def FnF (P : Program) (f : FuncId) (args : List PV) (r : PV) : Prop :=
  Fun P f ∧ ∀ (okA : Nat → Prop) (w : World) (vals : Array Value), LaidW okA w → vals.size = args.length → (∀ i (h : i < args.length), Reads okA w args[i] (vals.getD i undef)) →
    Calls P f vals w fun e w' => ∃ v, e = .returned v ∧ Below w.heap.size w w' ∧ Reads (fun b => w.heap.size ≤ b ∧ b < w'.heap.size) w' r v

/-- Plain data: no memory. -/
def PV.sc : PV → Bool
  | .int _ _ => true
  | .bool _ => true
  | .str _ => true
  | _ => false

theorem sc_reads {ok ok' : Nat → Prop} {w : World} {p : PV} {v : Value} (h : Reads ok w p v) (hs : p.sc = true) : Reads ok' w p v := by
  cases h <;> simp [PV.sc] at hs
  · exact .int _ _
  · exact .bool _
  · exact .str _

theorem FnG_fnf {f : FuncId} {args l : List PV} (h : FnG P f args (.sl 0 0 l.length) [.own (opl l)]) (hsc : l.all PV.sc = true) : FnF P f args (.list l) := by
  have hone : l.all PV.one = true := List.all_eq_true.2 fun x hx => by
    have := (List.all_eq_true.1 hsc) x hx
    cases x <;> simp [PV.sc] at this <;> rfl
  refine ⟨h.1, fun okA w vals h1 h2 h3 => (h.2 okA w vals h1 h2 h3).mono fun e w' ⟨v, m', he, hbl, ho⟩ => ⟨v, he, hbl, ?_⟩⟩
  cases ho.val with
  | sl _ _ _ _ hk hs =>
    rcases hs with ⟨h0, ad, rfl⟩ | ⟨lc, cap, hm, rfl, hc1, hc2⟩
    · have : l = [] := List.eq_nil_of_length_eq_zero h0
      subst this
      exact .list0 _ _ fun _ => rfl
    · rcases ho.blk 0 (opl l) rfl with ⟨hn, _⟩ | ⟨l', cur, e', hm2, hB, hh, hs1, hs3, hs2, hcells⟩
      · have : l = [] := List.map_eq_nil_iff.1 hn
        subst this
        exact .list0 _ _ fun h => by cases h
      · rw [hm] at hm2; cases hm2
        rw [opl_length] at hs2
        refine row_reads rfl hone ⟨hB, (Array.getElem?_eq_some_iff.1 hh).1⟩ hc1 (fun j => cur.getD (lc.o + j) undef) (fun j hj => ?_) fun j hj => ?_
        · have : lc.o + 0 + j = lc.o + j := by omega
          rw [this]; exact cell_of hh (by omega)
        · have := hcells j (by rw [opl_length]; exact hj)
          have e2 : (opl l)[j]'(by rw [opl_length]; exact hj) = .p l[j] := by simp [opl]
          rw [e2] at this
          exact sc_reads this.p_inv ((List.all_eq_true.1 hsc) _ (List.getElem_mem hj))

theorem call_doesF {o : Oper} {fo : Operand} {args : Array Operand} {ts : Array TypeId} (ho : o.op = .call { callee := .value fo, args := args, argTypes := ts }) {g : FuncId} {avs : List PV} {p : Prop} {b : Bool} {r : PV}
    (hc : FnF P g avs r) (hcall : callA s fo args = some (g, avs, p, b)) (hp : p) : DoesW P o s (.p r) s.H := by
  intro C m a w K Q R hK
  unfold callA at hcall
  split at hcall
  · rename_i g' cap hf
    split at hcall <;> simp only [Option.some.injEq, Prod.mk.injEq, reduceCtorEq] at hcall
    rename_i p' pvs b' hpl
    obtain ⟨rfl, rfl, rfl, rfl⟩ := hcall
    have hfv := R.ev fo
    rw [hf] at hfv
    generalize hfe : a.eval fo = fv at hfv
    have hfv := hfv.p_inv
    cases hfv with
    | fn _ _ vs hcl hcr =>
      obtain ⟨⟨fn, hfn, hnm, hbd⟩, hcalls⟩ := hc
      obtain ⟨e1, e2, e3⟩ := peekList_val (C := C) (m := m) (w := w) (H := s.H) (fun {x v p pv b} (hx : AVal (Reads (OK C m s.H w) w) m s.H x v) h hp => peekG_val R hx h hp) (args.toList.map s.ev) (fun c => (args.toList.map a.eval).getD c undef) (fun c hc => by
        simp only [List.length_map] at hc
        have := R.ev (args.toList[c])
        simpa [List.getD, List.getElem?_map, List.getElem?_eq_getElem hc] using this) hpl hp
      simp only [List.length_map] at e1
      have hvals : ∀ i (h : i < (pvs ++ cap).length), (args.map a.eval ++ vs).getD i undef = if i < pvs.length then (args.toList.map a.eval).getD i undef else vs.getD (i - pvs.length) undef := by
        intro i hi
        simp only [Array.getD_eq_getD_getElem?]
        by_cases hip : i < pvs.length
        · rw [if_pos hip, Array.getElem?_append_left (by simp at e1 ⊢; omega)]
          simp [List.getD]
        · rw [if_neg hip, Array.getElem?_append_right (by simp at e1 ⊢; omega)]
          congr 2
          simp at e1 ⊢; omega
      have hrun : (execOp a.eval o).run P w = .ok (.enter g' (args.map a.eval ++ vs)) w := by
        have hnm' : ¬ fn.name = "runtime.NumGoroutine" := by simpa using hnm
        have hbd' : ¬ fn.body = none := by intro e; rw [e] at hbd; simp at hbd
        simp [execOp, ho, resolve, hfe, Deferred.ofValue, invoke, callFunc, hfn, hnm', hbd']
      unfold Oper.wp
      rw [hrun]
      simp only [Oper.upon]
      have hsz : (args.map a.eval ++ vs).size = (pvs ++ cap).length := by simp at e1 ⊢; omega
      refine (hcalls (fun b => b < w.heap.size) w _ R.laidLt hsz fun i hi => ?_).mono fun e w' ⟨v, he, hbl, hv⟩ => ?_
      · rw [hvals i hi]
        by_cases hip : i < pvs.length
        · rw [if_pos hip, List.getElem_append_left hip]; exact (e2 i hip).mono fun b hb => hb.2
        · rw [if_neg hip, List.getElem_append_right (by omega)]; exact (hcr _ (by simp at hi; omega)).mono fun b hb => hb.2.1
      · subst he
        refine hK v m w' (R.later hbl) (.p _ _ (hv.mono fun b hb => ⟨.inr (R.base _ hb.1), hb.2, fun k c l hk hl e' => ?_⟩))
        have := (R.wrLt hk rfl hl).2
        have := hb.1
        omega
  · cases hcall

theorem call_locF {o : Oper} {fo : Operand} {args : Array Operand} {ts : Array TypeId} (ho : o.op = .call { callee := .value fo, args := args, argTypes := ts }) {g : FuncId} {avs : List PV} {p : Prop} {b : Bool} {r : PV}
    (hc : FnF P g avs r) (hcall : callA s fo args = some (g, avs, p, b)) (hp : p) : Loc1 P o s (.p r) s.H := by
  refine ⟨fun s2 hn ha hH => ?_, fun hf => ?_, fun _ => rfl⟩
  · have := callA_congr (ts := ts) (s := s) (s2 := s2) (fo := fo) (args := args) (by rw [← ho]; exact ha) hH
    rw [hcall] at this
    rw [← hH]
    exact call_doesF ho hc this hp
  · rw [ho] at hf; simp [isT] at hf

theorem runs_callF {draw : Bool} {all : Array Oper} {rest : List Oper} {K : St → Prop} {dst : Option Tmp} {ty : TypeId} {pos : String} {aft : Array Edge} {gd : Option (Nat × Bool)} {fo : Operand} {args : Array Operand} {ts : Array TypeId} {g : FuncId} {avs : List PV} {p : Prop} {b : Bool} {r : PV}
    (hc : FnF P g avs r) (hg : guardA all s { dst := dst, op := .call { callee := .value fo, args := args, argTypes := ts }, type := ty, pos := pos, after := aft, guard := gd } = some true)
    (hcall : callA s fo args = some (g, avs, p, b)) (hd : dstOk s dst) (hp : p) (h : Runs P draw all rest K (s.put dst (.p r))) :
    Runs P draw all ({ dst := dst, op := .call { callee := .value fo, args := args, argTypes := ts }, type := ty, pos := pos, after := aft, guard := gd } :: rest) K s := by
  obtain ⟨s', hr, hK⟩ := h
  exact ⟨s', .cons (.op s (.p r) s.H hg (dstOk_spec hd) (call_doesF rfl hc hcall hp) fun _ => call_locF rfl hc hcall hp) hr, hK⟩

end
end Go.Pv
namespace Go.Proofs.Ythdmioeddgednaa
open Go.Pv

theorem il_scal (l : List Int) : (il l).all PV.sc = true := by simp [il, PV.sc]

theorem those_g (n : Nat) (m : List Int) (F : FuncId) (caps : List PV) (p : Nat → Bool) (hn : n ≤ 1000000) (hF : ∀ a, a < n → FnC Try.prog F (.int .i64 a :: caps) (.bool (p a))) : FnG Try.prog 49 [gp n m, .fn F caps] (.sl 0 0 (il (thl n p)).length) [.own (opl (il (thl n p)))] := by
  refine fng_of tab_ok Try.func49 rfl (by kernel_rfl) (by rw [Try.ntmps49]; exact Nat.le_add_left 2 _) ?_; rw [Try.ntmps49]
  refine qm ?_
  refine hk_region fun K hK => runs_eval tab_ok ?_
  simp only [ev0, evA, evB, evP, fl, gp, tab, simprocAttr, reduceCtorEq, reduceIte]
  refine fin_run ?_ (hK _ ?_) <;> clear hK <;> clear K
  · (first | exact trivial | omega | (simp only [In64] at *; omega) | (simp [In64] at *; omega) | (simp_all; done) | skip)
  refine qa (qm ?_)
  refine hk_region fun K hK => runs_eval tab_ok ?_
  simp only [ev0, evA, evB, evP, fl, gp, tab, simprocAttr, reduceCtorEq, reduceIte]
  refine fin_run trivial (hK _ ?_) <;> clear hK <;> clear K
  refine qa (qm (qm ?_))
  refine hk_region fun K hK => runs_eval tab_ok ?_
  simp only [ev0, evA, evB, evP, fl, gp, tab, simprocAttr, reduceCtorEq, reduceIte]
  refine fin_run trivial (hK _ ?_) <;> clear hK <;> clear K
  refine qa (ql ?_)
  refine hk_own0 5 rfl ?_
  refine hk_loop (ι := Nat) (fun i => ⟨21, [(1, .p (.fn F caps)), (2, .ptr 0 0), (5, .sl 1 0 (thl i p).length), (6, .p (.int .i64 i))], [.own [.p (.int .i64 n), .p (.list (il m))], .own (ol (thl i p))]⟩) (fun i => i ≤ n) (fun i => n - i) 0 (Nat.zero_le _) [0, 1] (by simp only [leq, leA, ev0, evA, evB, evP, fl, gp, tab, simprocAttr, reduceCtorEq, reduceIte] <;> simp [thl, thn', ol_nil]) fun i hi => ?_
  have hl := thl_le i p
  refine qm (qm ?_)
  refine hk_region fun K hK => runs_eval tab_ok ?_
  simp only [ev0, evA, evB, evP, fl, gp, tab, simprocAttr, reduceCtorEq, reduceIte]
  refine fin_run ?_ (hK _ ?_) <;> clear hK <;> clear K
  · (first | exact trivial | omega | (simp only [In64] at *; omega) | (simp [In64] at *; omega) | (simp_all; done) | skip)
  refine qa ?_
  refine hk_cond rfl (fun hC1 => ?_) (fun hC1 => ?_)
  · (try simp only [nhs] at hC1)
    have hlt : i < n := by omega
    have hs := thl_succ i p
    refine qh (qa (qm (ql (qm ?_))))
    refine hk_region fun K hK => runs_eval tab_ok ?_
    simp only [ev0, evA, evB, evP, fl, gp, tab, simprocAttr, reduceCtorEq, reduceIte]
    refine fin_stop trivial (runs_call (hF i hlt) rfl rfl rfl (by simp only [dstOk, Nat.reduceLT]) (by repeat (first | exact trivial | constructor)) (runs_eval tab_ok ?_))
    simp only [ev0, evA, evB, evP, fl, gp, tab, simprocAttr, reduceCtorEq, reduceIte]
    refine fin_run trivial (hK _ ?_) <;> clear hK <;> clear K
    refine qa ?_
    refine hk_cond rfl (fun hC2 => ?_) (fun hC2 => ?_)
    · (try simp only [nhs] at hC2)
      rw [if_pos hC2] at hs
      refine hk_region fun K hK => runs_eval tab_ok ?_
      simp only [ev0, evA, evB, evP, fl, gp, tab, simprocAttr, reduceCtorEq, reduceIte]
      refine fin_run ?_ (hK _ ?_) <;> clear hK <;> clear K
      · (first | exact trivial | omega | (simp only [In64] at *; omega) | (simp [In64] at *; omega) | (simp_all; done) | skip)
      refine qd (qa ?_)
      refine hk_region fun K hK => runs_eval tab_ok ?_
      simp only [ev0, evA, evB, evP, fl, gp, tab, simprocAttr, reduceCtorEq, reduceIte]
      refine fin_run ?_ (hK _ ?_) <;> clear hK <;> clear K
      · (first | exact trivial | omega | (simp only [In64] at *; omega) | (simp [In64] at *; omega) | (simp_all; done) | skip)
      refine qa ?_
      refine ⟨i + 1, [0, 2], by omega, by omega, ?_⟩
      rw [hs]
      simp only [leq, leA, ev0, evA, evB, evP, fl, gp, tab, simprocAttr, reduceCtorEq, reduceIte] <;> first | trivial | omega
    · (try simp only [nhs] at hC2)
      rw [if_neg (by rw [hC2]; simp)] at hs
      refine qh (qd (qa ?_))
      refine hk_region fun K hK => runs_eval tab_ok ?_
      simp only [ev0, evA, evB, evP, fl, gp, tab, simprocAttr, reduceCtorEq, reduceIte]
      refine fin_run ?_ (hK _ ?_) <;> clear hK <;> clear K
      · (first | exact trivial | omega | (simp only [In64] at *; omega) | (simp [In64] at *; omega) | (simp_all; done) | skip)
      refine qa ?_
      refine ⟨i + 1, [0, 1], by omega, by omega, ?_⟩
      rw [hs, List.append_nil]
      simp only [leq, leA, ev0, evA, evB, evP, fl, gp, tab, simprocAttr, reduceCtorEq, reduceIte] <;> first | trivial | omega
  · (try simp only [nhs] at hC1)
    have hin : i = n := by omega
    subst hin
    refine qj (qc (qc (qf (qa (qm ?_)))))
    refine hk_region fun K hK => runs_eval tab_ok ?_
    simp only [ev0, evA, evB, evP, fl, gp, tab, simprocAttr, reduceCtorEq, reduceIte]
    refine fin_run trivial (hK _ ?_) <;> clear hK <;> clear K
    refine qa (qk ?_)
    simp only [Try.results49, PostG, endG, rvsA, rvA, mkTup, ev0, evA, evB, evP, fl, gp, tab, simprocAttr, reduceCtorEq, reduceIte]
    all_goals (exact ⟨[1], rfl, rfl, rfl, by simp, ⟨⟨by rw [← ol_opl, ol_ren, take_len], opl_sc _ _⟩, trivial⟩, trivial⟩)

theorem span_g {n e : Nat} {m : List Int} (h : GT n m n e) (l : List Int) (hl : l.length ≤ 1000000000000) (hr : ∀ x ∈ l, ∃ a, a < n ∧ x = ((a : Nat) : Int)) (q : Nat → Bool) (hq : ∀ a, a < n → (q a = true ↔ Gen n (op m n) e (tst l) a)) : FnG Try.prog 45 [gp n m, .list (il l)] (.sl 0 0 (il (thl n q)).length) [.own (opl (il (thl n q)))] := by
  have G := h.2.2
  have T := h.2.1
  have hb := T.big
  have hel := G.el
  refine fng_of tab_ok Try.func45 rfl (by kernel_rfl) (by rw [Try.ntmps45]; exact Nat.le_add_left 2 _) ?_; rw [Try.ntmps45]
  refine qm ?_
  refine hk_region fun K hK => runs_eval tab_ok ?_
  simp only [ev0, evA, evB, evP, fl, gp, tab, simprocAttr, reduceCtorEq, reduceIte]
  refine fin_run ?_ (hK _ ?_) <;> clear hK <;> clear K
  · (first | exact trivial | omega | (simp only [In64] at *; omega) | (simp [In64] at *; omega) | (simp_all; done) | skip)
  refine qa (qm ?_)
  refine hk_region fun K hK => runs_eval tab_ok ?_
  simp only [ev0, evA, evB, evP, fl, gp, tab, simprocAttr, reduceCtorEq, reduceIte, makeSliceA.eq_def, obl_new]
  refine fin_run ?_ (hK _ ?_) <;> clear hK <;> clear K
  · omega
  refine qa (qm ?_)
  refine hk_draw mixed (by kernel_rfl) fun K hK => runs_eval tab_ok ?_
  simp only [ev0, evA, evB, evP, fl, gp, tab, simprocAttr, reduceCtorEq, reduceIte]
  refine fin_stop trivial (runs_call (e_c T) rfl rfl rfl (by simp only [dstOk, Nat.reduceLT]) (by repeat (first | exact trivial | constructor)) (runs_eval tab_ok ?_))
  simp only [ev0, evA, evB, evP, fl, gp, tab, simprocAttr, reduceCtorEq, reduceIte, h.eI]
  refine fin_run ?_ (hK _ ?_) <;> clear hK <;> clear K
  · rw [bl_len]; omega
  refine qa (qm (qm ?_))
  rw [obl_set, show upd (fun _ => false) e = fun a => decide (a = e) || tst (l.take 0) a from funext fun a => by simp [upd, tst]]
  refine hk_region fun K hK => runs_eval tab_ok ?_
  simp only [ev0, evA, evB, evP, fl, gp, tab, simprocAttr, reduceCtorEq, reduceIte]
  refine fin_run trivial (hK _ ?_) <;> clear hK <;> clear K
  refine qa (ql ?_)
  refine hk_loop (ι := Nat) (fun i => ⟨71, [(1, .p (.list (il l))), (2, .ptr 0 0), (5, .ptr 2 0), (6, .p (.int .i64 i))], [.own [.p (.int .i64 n), .p (.list (il m))], .own (opl (bl n fun a => decide (a = e) || tst (l.take i) a)), .own [.sl 1 0 n]]⟩) (fun i => i ≤ l.length) (fun i => l.length - i) 0 (Nat.zero_le _) [0, 1, 2] (by simp only [leq, leA, ev0, evA, evB, evP, fl, gp, tab, simprocAttr, reduceCtorEq, reduceIte] <;> first | trivial | (simp; done)) fun i hi => ?_
  refine qm (qm ?_)
  refine hk_region fun K hK => runs_eval tab_ok ?_
  simp only [ev0, evA, evB, evP, fl, gp, tab, simprocAttr, reduceCtorEq, reduceIte]
  refine fin_run trivial (hK _ ?_) <;> clear hK <;> clear K
  refine qa ?_
  refine hk_cond rfl (fun hC1 => ?_) (fun hC1 => ?_)
  · (try simp only [nhs] at hC1)
    have hlt : i < l.length := by omega
    have hmem : l.getD i 0 ∈ l := by simp [List.getD, List.getElem?_eq_getElem hlt]
    obtain ⟨x, x1, x2⟩ := hr _ hmem
    refine qh (qa (qm (ql ?_)))
    refine hk_draw mixed (by kernel_rfl) fun K hK => runs_eval tab_ok ?_
    simp only [ev0, evA, evB, evP, fl, gp, tab, simprocAttr, reduceCtorEq, reduceIte, il_get hlt, x2, obl_len]
    refine fin_run ?_ (hK _ ?_) <;> clear hK <;> clear K
    · rw [bl_len]; omega
    refine qd (qa ?_)
    rw [obl_set]
    refine hk_region fun K hK => runs_eval tab_ok ?_
    simp only [ev0, evA, evB, evP, fl, gp, tab, simprocAttr, reduceCtorEq, reduceIte]
    refine fin_run ?_ (hK _ ?_) <;> clear hK <;> clear K
    · (first | exact trivial | omega | (simp only [In64] at *; omega) | (simp [In64] at *; omega) | (simp_all; done) | skip)
    refine qa ?_
    refine ⟨i + 1, [0, 1, 2], by omega, by omega, ?_⟩
    have hc : bl n (fun a => decide (a = e) || tst (l.take (i + 1)) a) = bl n (upd (fun a => decide (a = e) || tst (l.take i) a) x) := bl_congr fun a ha => by
      rw [List.take_succ_eq_append_getElem hlt]
      have e1 : l[i] = (x : Int) := by rw [← x2]; simp [List.getD, List.getElem?_eq_getElem hlt]
      rw [e1]
      unfold upd tst
      rw [Bool.or_assoc]
      congr 1
      rw [← Bool.decide_or]
      refine decide_eq_decide.2 ?_
      rw [List.mem_append, List.mem_singleton]
      constructor
      · rintro (h | h)
        · exact .inl h
        · exact .inr (by omega)
      · rintro (h | h)
        · exact .inl h
        · exact .inr (by omega)
    rw [hc]
    simp only [leq, leA, ev0, evA, evB, evP, fl, gp, tab, simprocAttr, reduceCtorEq, reduceIte] <;> first | trivial | omega
  · (try simp only [nhs] at hC1)
    have hin : i = l.length := by omega
    subst hin
    rw [List.take_length]
    refine qj (qc (qc (qf (qa (qm (qm ?_))))))
    refine hk_region fun K hK => runs_eval tab_ok ?_
    simp only [ev0, evA, evB, evP, fl, gp, tab, simprocAttr, reduceCtorEq, reduceIte]
    refine fin_run trivial (hK _ ?_) <;> clear hK <;> clear K
    refine qa (ql ?_)
    refine hk_loop (ι := (Nat → Bool) × Bool) (fun p => ⟨71, [(2, .ptr 0 0), (5, .ptr 2 0), (7, .p (.bool p.2))], [.own [.p (.int .i64 n), .p (.list (il m))], .own (opl (bl n p.1)), .own [.sl 1 0 n]]⟩) (fun p => p.1 e = true ∧ (∀ a, a < n → tst l a = true → p.1 a = true) ∧ (∀ a, a < n → p.1 a = true → Gen n (op m n) e (tst l) a) ∧ (p.2 = false → ∀ a, a < n → ∀ b, b < n → p.1 a = true → p.1 b = true → p.1 (op m n a b) = true)) (fun p => 2 * (2 ^ 64 - bo n p.1) + (if p.2 = true then 1 else 0)) (fun a => decide (a = e) || tst l a, true) ⟨by simp, fun a _ h => by simp [h], fun a ha h => by
        simp only [Bool.or_eq_true, decide_eq_true_eq] at h
        rcases h with rfl | h
        · exact .one
        · exact Gen.mem G ha h, fun h => by cases h⟩ [0, 1, 2] (by simp only [leq, leA, ev0, evA, evB, evP, fl, gp, tab, simprocAttr, reduceCtorEq, reduceIte] <;> first | trivial | (simp; done)) fun p hp => ?_
    obtain ⟨r, again⟩ := p
    obtain ⟨r1, r2, r3, r4⟩ := hp
    simp only at r1 r2 r3 r4
    refine qm (qm ?_)
    refine hk_region fun K hK => runs_eval tab_ok ?_
    simp only [ev0, evA, evB, evP, fl, gp, tab, simprocAttr, reduceCtorEq, reduceIte]
    refine fin_run trivial (hK _ ?_) <;> clear hK <;> clear K
    refine qa ?_
    refine hk_cond rfl (fun hC2 => ?_) (fun hC2 => ?_)
    · (try simp only [nhs] at hC2)
      subst hC2
      refine qh (qa (ql (qm ?_)))
      refine hk_region fun K hK => runs_eval tab_ok ?_
      simp only [ev0, evA, evB, evP, fl, gp, tab, simprocAttr, reduceCtorEq, reduceIte]
      refine fin_run trivial (hK _ ?_) <;> clear hK <;> clear K
      refine qa (qm ?_)
      refine hk_region fun K hK => runs_eval tab_ok ?_
      simp only [ev0, evA, evB, evP, fl, gp, tab, simprocAttr, reduceCtorEq, reduceIte]
      refine fin_run trivial (hK _ ?_) <;> clear hK <;> clear K
      refine qa (ql ?_)
      refine hk_loop (ι := Nat × (Nat → Bool) × Bool) (fun p => ⟨71, [(2, .ptr 0 0), (5, .ptr 2 0), (7, .p (.bool p.2.2)), (8, .p (.int .i64 p.1))], [.own [.p (.int .i64 n), .p (.list (il m))], .own (opl (bl n p.2.1)), .own [.sl 1 0 n]]⟩) (fun p => p.1 ≤ n ∧ (∀ a, a < n → r a = true → p.2.1 a = true) ∧ (∀ a, a < n → p.2.1 a = true → Gen n (op m n) e (tst l) a) ∧ (p.2.2 = true → bo n r < bo n p.2.1) ∧ (p.2.2 = false → p.2.1 = r ∧ ∀ a, a < p.1 → ∀ b, b < n → r a = true → r b = true → r (op m n a b) = true)) (fun p => n - p.1) (0, r, false) ⟨Nat.zero_le _, fun a _ h => h, r3, fun h => by (first | cases h | simp at h), fun _ => ⟨rfl, fun a ha => by simp only at ha; omega⟩⟩ [0, 1, 2] (by simp only [leq, leA, ev0, evA, evB, evP, fl, gp, tab, simprocAttr, reduceCtorEq, reduceIte] <;> first | trivial | (simp; done)) fun p hp => ?_
      obtain ⟨i, r', ag⟩ := p
      obtain ⟨u1, u2, u3, u4, u5⟩ := hp
      simp only at u1 u2 u3 u4 u5
      refine qm (qm ?_)
      refine hk_region fun K hK => runs_eval tab_ok ?_
      simp only [ev0, evA, evB, evP, fl, gp, tab, simprocAttr, reduceCtorEq, reduceIte]
      refine fin_run ?_ (hK _ ?_) <;> clear hK <;> clear K
      · (first | exact trivial | omega | (simp only [In64] at *; omega) | (simp [In64] at *; omega) | (simp_all; done) | skip)
      refine qa ?_
      refine hk_cond rfl (fun hC3 => ?_) (fun hC3 => ?_)
      · (try simp only [nhs] at hC3)
        have hil : i < n := by omega
        refine qh (qa (qm (ql (qm ?_))))
        refine hk_region fun K hK => runs_eval tab_ok ?_
        simp only [ev0, evA, evB, evP, fl, gp, tab, simprocAttr, reduceCtorEq, reduceIte]
        refine fin_run trivial (hK _ ?_) <;> clear hK <;> clear K
        refine qa (ql ?_)
        refine hk_loop (ι := Nat × (Nat → Bool) × Bool) (fun p => ⟨71, [(2, .ptr 0 0), (5, .ptr 2 0), (7, .p (.bool p.2.2)), (8, .p (.int .i64 i)), (9, .p (.int .i64 p.1))], [.own [.p (.int .i64 n), .p (.list (il m))], .own (opl (bl n p.2.1)), .own [.sl 1 0 n]]⟩) (fun p => p.1 ≤ n ∧ (∀ a, a < n → r a = true → p.2.1 a = true) ∧ (∀ a, a < n → p.2.1 a = true → Gen n (op m n) e (tst l) a) ∧ (p.2.2 = true → bo n r < bo n p.2.1) ∧ (p.2.2 = false → p.2.1 = r ∧ (∀ a, a < i → ∀ b, b < n → r a = true → r b = true → r (op m n a b) = true) ∧ ∀ b, b < p.1 → r i = true → r b = true → r (op m n i b) = true)) (fun p => n - p.1) (0, r', ag) ⟨Nat.zero_le _, u2, u3, u4, fun h => ⟨(u5 h).1, (u5 h).2, fun b hb => by simp only at hb; omega⟩⟩ [0, 1, 2] (by simp only [leq, leA, ev0, evA, evB, evP, fl, gp, tab, simprocAttr, reduceCtorEq, reduceIte] <;> first | trivial | (simp; done)) fun p hp => ?_
        obtain ⟨j, r'', ag'⟩ := p
        obtain ⟨v1, v2, v3, v4, v5⟩ := hp
        simp only at v1 v2 v3 v4 v5
        refine qm (qm ?_)
        refine hk_region fun K hK => runs_eval tab_ok ?_
        simp only [ev0, evA, evB, evP, fl, gp, tab, simprocAttr, reduceCtorEq, reduceIte]
        refine fin_run ?_ (hK _ ?_) <;> clear hK <;> clear K
        · (first | exact trivial | omega | (simp only [In64] at *; omega) | (simp [In64] at *; omega) | (simp_all; done) | skip)
        refine qa ?_
        refine hk_cond rfl (fun hC4 => ?_) (fun hC4 => ?_)
        · (try simp only [nhs] at hC4)
          have hjl : j < n := by omega
          have hfl := G.cl i j hil hjl
          refine qh (qa (qm (ql (qm ?_))))
          rcases bool3 (r'' i) (r'' j) with hri | ⟨hri, hrj⟩ | ⟨hri, hrj⟩
          · refine hk_draw mixed (by kernel_rfl) fun K hK => runs_eval tab_ok ?_
            simp only [ev0, evA, evB, evP, fl, gp, tab, simprocAttr, reduceCtorEq, reduceIte, obl_get hil, bl_len, obl_len, hri]
            refine fin_run ?_ (hK _ ?_) <;> clear hK <;> clear K
            · omega
            refine qa ?_
            refine hk_cond rfl (fun hC5 => ?_) (fun hC5 => ?_)
            · cases hC5
            · refine qh (qd (qa ?_))
              refine hk_region fun K hK => runs_eval tab_ok ?_
              simp only [ev0, evA, evB, evP, fl, gp, tab, simprocAttr, reduceCtorEq, reduceIte]
              refine fin_run ?_ (hK _ ?_) <;> clear hK <;> clear K
              · (first | exact trivial | omega | (simp only [In64] at *; omega) | (simp [In64] at *; omega) | (simp_all; done) | skip)
              refine qa ?_
              refine ⟨(j + 1, r'', ag'), [0, 1, 2], ⟨by simp only; omega, v2, v3, v4, fun h => ?_⟩, by simp only; omega, ?_⟩
              · obtain ⟨x1, x2, x3⟩ := v5 h
                refine ⟨x1, x2, fun b hb' h1 h2 => ?_⟩
                by_cases hbj : b = j
                · rw [← x1, hri] at h1; cases h1
                · exact x3 b (by simp only at hb'; omega) h1 h2
              · simp only [leq, leA, ev0, evA, evB, evP, fl, gp, tab, simprocAttr, reduceCtorEq, reduceIte] <;> first | trivial | omega
          · refine hk_draw mixed (by kernel_rfl) fun K hK => runs_eval tab_ok ?_
            simp only [ev0, evA, evB, evP, fl, gp, tab, simprocAttr, reduceCtorEq, reduceIte, obl_get hil, obl_get hjl, bl_len, obl_len, hri, hrj]
            refine fin_run ?_ (hK _ ?_) <;> clear hK <;> clear K
            · omega
            refine qa ?_
            refine hk_cond rfl (fun hC5 => ?_) (fun hC5 => ?_)
            · cases hC5
            · refine qh (qd (qa ?_))
              refine hk_region fun K hK => runs_eval tab_ok ?_
              simp only [ev0, evA, evB, evP, fl, gp, tab, simprocAttr, reduceCtorEq, reduceIte]
              refine fin_run ?_ (hK _ ?_) <;> clear hK <;> clear K
              · (first | exact trivial | omega | (simp only [In64] at *; omega) | (simp [In64] at *; omega) | (simp_all; done) | skip)
              refine qa ?_
              refine ⟨(j + 1, r'', ag'), [0, 1, 2], ⟨by simp only; omega, v2, v3, v4, fun h => ?_⟩, by simp only; omega, ?_⟩
              · obtain ⟨x1, x2, x3⟩ := v5 h
                refine ⟨x1, x2, fun b hb' h1 h2 => ?_⟩
                by_cases hbj : b = j
                · rw [hbj, ← x1, hrj] at h2; cases h2
                · exact x3 b (by simp only at hb'; omega) h1 h2
              · simp only [leq, leA, ev0, evA, evB, evP, fl, gp, tab, simprocAttr, reduceCtorEq, reduceIte] <;> first | trivial | omega
          · refine hk_draw mixed (by kernel_rfl) fun K hK => runs_eval tab_ok ?_
            simp only [ev0, evA, evB, evP, fl, gp, tab, simprocAttr, reduceCtorEq, reduceIte, obl_get hil, obl_get hjl, obl_get hfl, bl_len, obl_len, hri, hrj]
            refine fin_stop ?_ (runs_call (m_c T hil hjl) rfl rfl rfl (by simp only [dstOk, Nat.reduceLT]) (by repeat (first | exact trivial | constructor)) (runs_eval tab_ok ?_))
            · omega
            simp only [ev0, evA, evB, evP, fl, gp, tab, simprocAttr, reduceCtorEq, reduceIte, obl_get hil, obl_get hjl, obl_get hfl, bl_len, obl_len, hri, hrj]
            refine fin_run ?_ (hK _ ?_) <;> clear hK <;> clear K
            · omega
            refine qa ?_
            refine hk_cond rfl (fun hC5 => ?_) (fun hC5 => ?_)
            · (try simp only [nhs] at hC5)
              refine qm ?_
              refine hk_draw mixed (by kernel_rfl) fun K hK => runs_eval tab_ok ?_
              simp only [ev0, evA, evB, evP, fl, gp, tab, simprocAttr, reduceCtorEq, reduceIte, obl_len, bl_len]
              refine fin_stop trivial (runs_call (m_c T hil hjl) rfl rfl rfl (by simp only [dstOk, Nat.reduceLT]) (by repeat (first | exact trivial | constructor)) (runs_eval tab_ok ?_))
              simp only [ev0, evA, evB, evP, fl, gp, tab, simprocAttr, reduceCtorEq, reduceIte, obl_len, bl_len]
              refine fin_run ?_ (hK _ ?_) <;> clear hK <;> clear K
              · omega
              refine qa ?_
              rw [obl_set]
              refine hk_region fun K hK => runs_eval tab_ok ?_
              simp only [ev0, evA, evB, evP, fl, gp, tab, simprocAttr, reduceCtorEq, reduceIte]
              refine fin_run trivial (hK _ ?_) <;> clear hK <;> clear K
              refine qd (qa ?_)
              refine hk_region fun K hK => runs_eval tab_ok ?_
              simp only [ev0, evA, evB, evP, fl, gp, tab, simprocAttr, reduceCtorEq, reduceIte]
              refine fin_run ?_ (hK _ ?_) <;> clear hK <;> clear K
              · (first | exact trivial | omega | (simp only [In64] at *; omega) | (simp [In64] at *; omega) | (simp_all; done) | skip)
              refine qa ?_
              have hnew : r'' (op m n i j) = false := by simpa using hC5
              have hgt : bo n r < bo n (upd r'' (op m n i j)) := by
                have h1 : bo n r'' < bo n (upd r'' (op m n i j)) := bo_lt_of (fun a _ h => by simp [upd, h]) hfl hnew (by simp [upd])
                cases hag : ag' with
                | true => have := v4 hag; omega
                | false => rw [(v5 hag).1] at h1; rw [(v5 hag).1]; exact h1
              refine ⟨(j + 1, upd r'' (op m n i j), true), [0, 1, 2], ⟨by simp only; omega, fun a ha h => ?_, fun a ha h => ?_, fun _ => hgt, fun h => by first | cases h | simp at h⟩, by simp only; omega, ?_⟩
              · simp [upd, v2 a ha h]
              · simp only [upd, Bool.or_eq_true, decide_eq_true_eq] at h
                rcases h with h | h
                · exact v3 a ha h
                · rw [h]; exact Gen.mul G (v3 i hil hri) (v3 j hjl hrj)
              · simp only [leq, leA, ev0, evA, evB, evP, fl, gp, tab, simprocAttr, reduceCtorEq, reduceIte] <;> first | trivial | omega
            · (try simp only [nhs] at hC5)
              refine qh (qd (qa ?_))
              refine hk_region fun K hK => runs_eval tab_ok ?_
              simp only [ev0, evA, evB, evP, fl, gp, tab, simprocAttr, reduceCtorEq, reduceIte]
              refine fin_run ?_ (hK _ ?_) <;> clear hK <;> clear K
              · (first | exact trivial | omega | (simp only [In64] at *; omega) | (simp [In64] at *; omega) | (simp_all; done) | skip)
              refine qa ?_
              have hin2 : r'' (op m n i j) = true := by simpa using hC5
              refine ⟨(j + 1, r'', ag'), [0, 1, 2], ⟨by simp only; omega, v2, v3, v4, fun h => ?_⟩, by simp only; omega, ?_⟩
              · obtain ⟨x1, x2, x3⟩ := v5 h
                refine ⟨x1, x2, fun b hb' h1 h2 => ?_⟩
                by_cases hbj : b = j
                · rw [hbj, ← x1]; exact hin2
                · exact x3 b (by simp only at hb'; omega) h1 h2
              · simp only [leq, leA, ev0, evA, evB, evP, fl, gp, tab, simprocAttr, reduceCtorEq, reduceIte] <;> first | trivial | omega
        · (try simp only [nhs] at hC4)
          have hjn : j = n := by omega
          subst hjn
          refine qj (qc (qc (qf (qd (qa ?_)))))
          refine hk_region fun K hK => runs_eval tab_ok ?_
          simp only [ev0, evA, evB, evP, fl, gp, tab, simprocAttr, reduceCtorEq, reduceIte]
          refine fin_run ?_ (hK _ ?_) <;> clear hK <;> clear K
          · (first | exact trivial | omega | (simp only [In64] at *; omega) | (simp [In64] at *; omega) | (simp_all; done) | skip)
          refine qa ?_
          refine ⟨(i + 1, r'', ag'), [0, 1, 2], ⟨by simp only; omega, v2, v3, v4, fun h => ?_⟩, by simp only; omega, ?_⟩
          · obtain ⟨x1, x2, x3⟩ := v5 h
            refine ⟨x1, fun a ha b hb' h1 h2 => ?_⟩
            by_cases hai : a = i
            · rw [hai] at h1 ⊢; exact x3 b hb' h1 h2
            · exact x2 a (by simp only at ha; omega) b hb' h1 h2
          · simp only [leq, leA, ev0, evA, evB, evP, fl, gp, tab, simprocAttr, reduceCtorEq, reduceIte] <;> first | trivial | omega
      · (try simp only [nhs] at hC3)
        have hin : i = n := by omega
        subst hin
        refine qj (qc (qc (qf (qd (qa ?_)))))
        refine ⟨(r', ag), [0, 1, 2], ⟨u2 e hel r1, fun a ha h => u2 a ha (r2 a ha h), u3, fun h a ha b hb' h1 h2 => ?_⟩, ?_, ?_⟩
        · obtain ⟨x1, x2⟩ := u5 h
          simp only [x1] at h1 h2 ⊢
          exact x2 a ha b hb' h1 h2
        · have h1 := bo_lt64 hb r'
          have h2 := bo_lt64 hb r
          simp only [if_true]
          cases hag : ag with
          | true => have := u4 hag; simp only [if_true]; omega
          | false => rw [(u5 hag).1]; simp
        · simp only [leq, leA, ev0, evA, evB, evP, fl, gp, tab, simprocAttr, reduceCtorEq, reduceIte] <;> first | trivial | omega
    · (try simp only [nhs] at hC2)
      subst hC2
      have hfin : bl n r = bl n q := bl_congr fun a ha => by
        rw [Bool.eq_iff_iff, hq a ha]
        refine ⟨r3 a ha, fun hg => ?_⟩
        exact Gen.least (H := fun x => r x = true) r1 (fun a b ga hb' hpb hH => r4 rfl a (ga.lt G) b hb' hH (r2 b hb' hpb)) hg
      rw [hfin]
      refine qj (qc (qc (qf (qa (qm ?_)))))
      refine hk_freeze 1 rfl (opl_allP _) ?_
      refine hk_purec 2 0 rfl rfl rfl ⟨by rw [bl_len]; omega, ?_⟩ ?_
      · rw [List.drop_zero, List.take_of_length_le (by rw [bl_len]; omega)]; exact bl_one n q
      simp only [hset, List.set, List.drop_zero]
      rw [List.take_of_length_le (by rw [bl_len]; omega)]
      refine hk_freeze 2 rfl rfl ?_
      simp only [hset]
      refine hk_region fun K hK => runs_eval tab_ok ?_
      simp only [ev0, evA, evB, evP, fl, gp, tab, simprocAttr, reduceCtorEq, reduceIte]
      refine fin_stop trivial (runs_callG (those_g n m _ _ q (by omega) (fun a ha => span1_c n a q ha hb)) rfl rfl (by first | rfl | (simp [scG, scA, sc1, opl]; done) | (simp only [scG, List.all_cons, List.all_nil, ol_sc, Bool.and_true]; rfl)) (by simp only [dstOk, Nat.reduceLT]) (by repeat (first | exact trivial | constructor)) (runs_eval tab_ok ?_))
      simp only [shf, List.range', Blk.ren, opl_ren, ren, ren1, ev0, evA, evB, evP, fl, gp, tab, simprocAttr, reduceCtorEq, reduceIte]
      refine fin_run ?_ (hK _ ?_) <;> clear hK <;> clear K
      · (first | exact trivial | omega | (simp only [In64] at *; omega) | (simp [In64] at *; omega) | (simp_all; done) | skip)
      refine qa (qk ?_)
      simp only [Try.results45, PostG, endG, rvsA, rvA, mkTup, ev0, evA, evB, evP, fl, gp, tab, simprocAttr, reduceCtorEq, reduceIte]
      refine ⟨[3], rfl, rfl, rfl, by simp, ⟨⟨?_, opl_sc _ _⟩, trivial⟩, trivial⟩
      rw [opl_ren, take_len]

end Go.Proofs.Ythdmioeddgednaa
