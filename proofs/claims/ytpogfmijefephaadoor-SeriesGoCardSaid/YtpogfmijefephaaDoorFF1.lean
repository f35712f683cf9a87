/-
  Calls that hand out fresh rows of plain values; functions with captured rows of the call's own. Conditions: none.
-/
import Derived.Test.YtpogfmijefephaaDoorS4
import Derived.Test.YtpogfmijefephaaDoorPvW2
set_option linter.all false
namespace Go.Pv
open Go.RowKit

section
variable {P : Program} {s : St}

/-- A contract whose result lies in memory that is new: whatever the arguments may be. -/
def FnF (P : Program) (f : FuncId) (args : List PV) (r : PV) : Prop :=
  Fun P f ∧ ∀ (okA : Nat → Prop) (w : World) (vals : Array Value), LaidW okA w → vals.size = args.length → (∀ i (h : i < args.length), Reads okA w args[i] (vals.getD i undef)) →
    Calls P f vals w fun e w' => ∃ v, e = .returned v ∧ Below w.heap.size w w' ∧ Reads (fun b => w.heap.size ≤ b ∧ b < w'.heap.size) w' r v

/-- Plain data: no memory. -/
def PV.sc : PV → Bool
  | .int _ _ => true
  | .bool _ => true
  | .str _ => true
  | _ => false

theorem sc_reads {ok ok' : Nat → Prop} {w : World} {p : PV} {v : Value} (h : Reads ok w p v) (hs : p.sc = true) : Reads ok' w p v := by
  cases h <;> simp [PV.sc] at hs
  · exact .int _ _
  · exact .bool _
  · exact .str _

theorem FnG_fnf {f : FuncId} {args l : List PV} (h : FnG P f args (.sl 0 0 l.length) [.own (opl l)]) (hsc : l.all PV.sc = true) : FnF P f args (.list l) := by
  have hone : l.all PV.one = true := List.all_eq_true.2 fun x hx => by
    have := (List.all_eq_true.1 hsc) x hx
    cases x <;> simp [PV.sc] at this <;> rfl
  refine ⟨h.1, fun okA w vals h1 h2 h3 => (h.2 okA w vals h1 h2 h3).mono fun e w' ⟨v, m', he, hbl, ho⟩ => ⟨v, he, hbl, ?_⟩⟩
  cases ho.val with
  | sl _ _ _ _ hk hs =>
    rcases hs with ⟨h0, ad, rfl⟩ | ⟨lc, cap, hm, rfl, hc1, hc2⟩
    · have : l = [] := List.eq_nil_of_length_eq_zero h0
      subst this
      exact .list0 _ _ fun _ => rfl
    · rcases ho.blk 0 (opl l) rfl with ⟨hn, _⟩ | ⟨l', cur, e', hm2, hB, hh, hs1, hs3, hs2, hcells⟩
      · have : l = [] := List.map_eq_nil_iff.1 hn
        subst this
        exact .list0 _ _ fun h => by cases h
      · rw [hm] at hm2; cases hm2
        rw [opl_length] at hs2
        refine row_reads rfl hone ⟨hB, (Array.getElem?_eq_some_iff.1 hh).1⟩ hc1 (fun j => cur.getD (lc.o + j) undef) (fun j hj => ?_) fun j hj => ?_
        · have : lc.o + 0 + j = lc.o + j := by omega
          rw [this]; exact cell_of hh (by omega)
        · have := hcells j (by rw [opl_length]; exact hj)
          have e2 : (opl l)[j]'(by rw [opl_length]; exact hj) = .p l[j] := by simp [opl]
          rw [e2] at this
          exact sc_reads this.p_inv ((List.all_eq_true.1 hsc) _ (List.getElem_mem hj))

theorem call_doesF {o : Oper} {fo : Operand} {args : Array Operand} {ts : Array TypeId} (ho : o.op = .call { callee := .value fo, args := args, argTypes := ts }) {g : FuncId} {avs : List PV} {p : Prop} {b : Bool} {r : PV}
    (hc : FnF P g avs r) (hcall : callA s fo args = some (g, avs, p, b)) (hp : p) : DoesW P o s (.p r) s.H := by
  intro C m a w K Q R hK
  unfold callA at hcall
  split at hcall
  · rename_i g' cap hf
    split at hcall <;> simp only [Option.some.injEq, Prod.mk.injEq, reduceCtorEq] at hcall
    rename_i p' pvs b' hpl
    obtain ⟨rfl, rfl, rfl, rfl⟩ := hcall
    have hfv := R.ev fo
    rw [hf] at hfv
    generalize hfe : a.eval fo = fv at hfv
    have hfv := hfv.p_inv
    cases hfv with
    | fn _ _ vs hcl hcr =>
      obtain ⟨⟨fn, hfn, hnm, hbd⟩, hcalls⟩ := hc
      obtain ⟨e1, e2, e3⟩ := peekList_val (C := C) (m := m) (w := w) (H := s.H) (fun {x v p pv b} (hx : AVal (Reads (OK C m s.H w) w) m s.H x v) h hp => peekG_val R hx h hp) (args.toList.map s.ev) (fun c => (args.toList.map a.eval).getD c undef) (fun c hc => by
        simp only [List.length_map] at hc
        have := R.ev (args.toList[c])
        simpa [List.getD, List.getElem?_map, List.getElem?_eq_getElem hc] using this) hpl hp
      simp only [List.length_map] at e1
      have hvals : ∀ i (h : i < (pvs ++ cap).length), (args.map a.eval ++ vs).getD i undef = if i < pvs.length then (args.toList.map a.eval).getD i undef else vs.getD (i - pvs.length) undef := by
        intro i hi
        simp only [Array.getD_eq_getD_getElem?]
        by_cases hip : i < pvs.length
        · rw [if_pos hip, Array.getElem?_append_left (by simp at e1 ⊢; omega)]
          simp [List.getD]
        · rw [if_neg hip, Array.getElem?_append_right (by simp at e1 ⊢; omega)]
          congr 2
          simp at e1 ⊢; omega
      have hrun : (execOp a.eval o).run P w = .ok (.enter g' (args.map a.eval ++ vs)) w := by
        have hnm' : ¬ fn.name = "runtime.NumGoroutine" := by simpa using hnm
        have hbd' : ¬ fn.body = none := by intro e; rw [e] at hbd; simp at hbd
        simp [execOp, ho, resolve, hfe, Deferred.ofValue, invoke, callFunc, hfn, hnm', hbd']
      unfold Oper.wp
      rw [hrun]
      simp only [Oper.upon]
      have hsz : (args.map a.eval ++ vs).size = (pvs ++ cap).length := by simp at e1 ⊢; omega
      refine (hcalls (fun b => b < w.heap.size) w _ R.laidLt hsz fun i hi => ?_).mono fun e w' ⟨v, he, hbl, hv⟩ => ?_
      · rw [hvals i hi]
        by_cases hip : i < pvs.length
        · rw [if_pos hip, List.getElem_append_left hip]; exact (e2 i hip).mono fun b hb => hb.2
        · rw [if_neg hip, List.getElem_append_right (by omega)]; exact (hcr _ (by simp at hi; omega)).mono fun b hb => hb.2.1
      · subst he
        refine hK v m w' (R.later hbl) (.p _ _ (hv.mono fun b hb => ⟨.inr (R.base _ hb.1), hb.2, fun k c l hk hl e' => ?_⟩))
        have := (R.wrLt hk rfl hl).2
        have := hb.1
        omega
  · cases hcall

theorem call_locF {o : Oper} {fo : Operand} {args : Array Operand} {ts : Array TypeId} (ho : o.op = .call { callee := .value fo, args := args, argTypes := ts }) {g : FuncId} {avs : List PV} {p : Prop} {b : Bool} {r : PV}
    (hc : FnF P g avs r) (hcall : callA s fo args = some (g, avs, p, b)) (hp : p) : Loc1 P o s (.p r) s.H := by
  refine ⟨fun s2 hn ha hH => ?_, fun hf => ?_, fun _ => rfl⟩
  · have := callA_congr (ts := ts) (s := s) (s2 := s2) (fo := fo) (args := args) (by rw [← ho]; exact ha) hH
    rw [hcall] at this
    rw [← hH]
    exact call_doesF ho hc this hp
  · rw [ho] at hf; simp [isT] at hf

theorem runs_callF {draw : Bool} {all : Array Oper} {rest : List Oper} {K : St → Prop} {dst : Option Tmp} {ty : TypeId} {pos : String} {aft : Array Edge} {gd : Option (Nat × Bool)} {fo : Operand} {args : Array Operand} {ts : Array TypeId} {g : FuncId} {avs : List PV} {p : Prop} {b : Bool} {r : PV}
    (hc : FnF P g avs r) (hg : guardA all s { dst := dst, op := .call { callee := .value fo, args := args, argTypes := ts }, type := ty, pos := pos, after := aft, guard := gd } = some true)
    (hcall : callA s fo args = some (g, avs, p, b)) (hd : dstOk s dst) (hp : p) (h : Runs P draw all rest K (s.put dst (.p r))) :
    Runs P draw all ({ dst := dst, op := .call { callee := .value fo, args := args, argTypes := ts }, type := ty, pos := pos, after := aft, guard := gd } :: rest) K s := by
  obtain ⟨s', hr, hK⟩ := h
  exact ⟨s', .cons (.op s (.p r) s.H hg (dstOk_spec hd) (call_doesF rfl hc hcall hp) fun _ => call_locF rfl hc hcall hp) hr, hK⟩

end

/-- A function with captured values, of whatever make. -/
theorem makeCl_does {P : Program} {s : St} {o : Oper} {f : FuncId} {first : Array Operand} {caps : Array Operand} (ho : o.op = .makeFunc (.func f) first caps) (hf : first.isEmpty = true) : DoesW P o s (.cl f (caps.toList.map s.ev)) s.H := by
  intro C m a w K Q R hK
  have hfe : first = #[] := by simpa using hf
  have hrun : (execOp a.eval o).run P w = .ok (.value (.func (.func f) #[] (caps.map a.eval))) w := by
    simp [execOp, ho, hfe, Instr.makeFunc]
  unfold Oper.wp
  rw [hrun]
  refine hK _ m w R (.cl _ _ _ (by simp) fun c hc => ?_)
  have hc' : c < caps.size := by simpa using hc
  have e1 : (caps.map a.eval).getD c undef = a.eval caps[c] := by simp [Array.getD_eq_getD_getElem?, hc']
  have e2 : (caps.toList.map s.ev)[c] = s.ev caps[c] := by simp
  rw [e1, e2]
  exact R.ev _
end Go.Pv
namespace Go.Proofs.YtpogfmijefephaaDoor
open Go.Pv

theorem ol_oplF (w : List Int) : ol w = opl (il w) := rfl
theorem il_scal (l : List Int) : (il l).all PV.sc = true := by simp [il, PV.sc]

theorem those_g (n : Nat) (m : List Int) (F : FuncId) (caps : List PV) (p : Nat → Bool) (hn : n ≤ 1000000) (hF : ∀ a, a < n → FnC Tryd.prog F (.int .i64 a :: caps) (.bool (p a))) : FnG Tryd.prog 43 [gp n m, .fn F caps] (.sl 0 0 (il (thl n p)).length) [.own (opl (il (thl n p)))] := by
  refine fng_of tab_ok Tryd.func43 rfl (by kernel_rfl) (by rw [Tryd.ntmps43]; exact Nat.le_add_left 2 _) ?_; rw [Tryd.ntmps43]
  refine qm ?_
  refine hk_region fun K hK => runs_eval tab_ok ?_
  simp only [ev0, evA, evB, evP, fl, gp, tab, simprocAttr, reduceCtorEq, reduceIte]
  refine fin_run ?_ (hK _ ?_) <;> clear hK <;> clear K
  · (first | exact trivial | omega | (simp only [In64] at *; omega) | (simp [In64] at *; omega) | (simp_all; done) | skip)
  refine qa (qm ?_)
  refine hk_region fun K hK => runs_eval tab_ok ?_
  simp only [ev0, evA, evB, evP, fl, gp, tab, simprocAttr, reduceCtorEq, reduceIte]
  refine fin_run trivial (hK _ ?_) <;> clear hK <;> clear K
  refine qa (qm (qm ?_))
  refine hk_region fun K hK => runs_eval tab_ok ?_
  simp only [ev0, evA, evB, evP, fl, gp, tab, simprocAttr, reduceCtorEq, reduceIte]
  refine fin_run trivial (hK _ ?_) <;> clear hK <;> clear K
  refine qa (ql ?_)
  refine hk_own0 5 rfl ?_
  refine hk_loop (ι := Nat) (fun i => ⟨21, [(1, .p (.fn F caps)), (2, .ptr 0 0), (5, .sl 1 0 (thl i p).length), (6, .p (.int .i64 i))], [.own [.p (.int .i64 n), .p (.list (il m))], .own (ol (thl i p))]⟩) (fun i => i ≤ n) (fun i => n - i) 0 (Nat.zero_le _) [0, 1] (by simp only [leq, leA, ev0, evA, evB, evP, fl, gp, tab, simprocAttr, reduceCtorEq, reduceIte] <;> simp [thl, thn', ol_nil]) fun i hi => ?_
  have hl := thl_le i p
  refine qm (qm ?_)
  refine hk_region fun K hK => runs_eval tab_ok ?_
  simp only [ev0, evA, evB, evP, fl, gp, tab, simprocAttr, reduceCtorEq, reduceIte]
  refine fin_run ?_ (hK _ ?_) <;> clear hK <;> clear K
  · (first | exact trivial | omega | (simp only [In64] at *; omega) | (simp [In64] at *; omega) | (simp_all; done) | skip)
  refine qa ?_
  refine hk_cond rfl (fun hC1 => ?_) (fun hC1 => ?_)
  · (try simp only [nhs] at hC1)
    have hlt : i < n := by omega
    have hs := thl_succ i p
    refine qh (qa (qm (ql (qm ?_))))
    refine hk_region fun K hK => runs_eval tab_ok ?_
    simp only [ev0, evA, evB, evP, fl, gp, tab, simprocAttr, reduceCtorEq, reduceIte]
    refine fin_stop trivial (runs_call (hF i hlt) rfl rfl rfl (by simp only [dstOk, Nat.reduceLT]) (by repeat (first | exact trivial | constructor)) (runs_eval tab_ok ?_))
    simp only [ev0, evA, evB, evP, fl, gp, tab, simprocAttr, reduceCtorEq, reduceIte]
    refine fin_run trivial (hK _ ?_) <;> clear hK <;> clear K
    refine qa ?_
    refine hk_cond rfl (fun hC2 => ?_) (fun hC2 => ?_)
    · (try simp only [nhs] at hC2)
      rw [if_pos hC2] at hs
      refine hk_region fun K hK => runs_eval tab_ok ?_
      simp only [ev0, evA, evB, evP, fl, gp, tab, simprocAttr, reduceCtorEq, reduceIte]
      refine fin_run ?_ (hK _ ?_) <;> clear hK <;> clear K
      · (first | exact trivial | omega | (simp only [In64] at *; omega) | (simp [In64] at *; omega) | (simp_all; done) | skip)
      refine qd (qa ?_)
      refine hk_region fun K hK => runs_eval tab_ok ?_
      simp only [ev0, evA, evB, evP, fl, gp, tab, simprocAttr, reduceCtorEq, reduceIte]
      refine fin_run ?_ (hK _ ?_) <;> clear hK <;> clear K
      · (first | exact trivial | omega | (simp only [In64] at *; omega) | (simp [In64] at *; omega) | (simp_all; done) | skip)
      refine qa ?_
      refine ⟨i + 1, [0, 2], by omega, by omega, ?_⟩
      rw [hs]
      simp only [leq, leA, ev0, evA, evB, evP, fl, gp, tab, simprocAttr, reduceCtorEq, reduceIte] <;> first | trivial | omega
    · (try simp only [nhs] at hC2)
      rw [if_neg (by rw [hC2]; simp)] at hs
      refine qh (qd (qa ?_))
      refine hk_region fun K hK => runs_eval tab_ok ?_
      simp only [ev0, evA, evB, evP, fl, gp, tab, simprocAttr, reduceCtorEq, reduceIte]
      refine fin_run ?_ (hK _ ?_) <;> clear hK <;> clear K
      · (first | exact trivial | omega | (simp only [In64] at *; omega) | (simp [In64] at *; omega) | (simp_all; done) | skip)
      refine qa ?_
      refine ⟨i + 1, [0, 1], by omega, by omega, ?_⟩
      rw [hs, List.append_nil]
      simp only [leq, leA, ev0, evA, evB, evP, fl, gp, tab, simprocAttr, reduceCtorEq, reduceIte] <;> first | trivial | omega
  · (try simp only [nhs] at hC1)
    have hin : i = n := by omega
    subst hin
    refine qj (qc (qc (qf (qa (qm ?_)))))
    refine hk_region fun K hK => runs_eval tab_ok ?_
    simp only [ev0, evA, evB, evP, fl, gp, tab, simprocAttr, reduceCtorEq, reduceIte]
    refine fin_run trivial (hK _ ?_) <;> clear hK <;> clear K
    refine qa (qk ?_)
    simp only [Tryd.results43, PostG, endG, rvsA, rvA, mkTup, ev0, evA, evB, evP, fl, gp, tab, simprocAttr, reduceCtorEq, reduceIte]
    all_goals (exact ⟨[1], rfl, rfl, rfl, by simp, ⟨⟨by rw [← ol_oplF, ol_ren, take_len], opl_sc _ _⟩, trivial⟩, trivial⟩)

end Go.Proofs.YtpogfmijefephaaDoor
