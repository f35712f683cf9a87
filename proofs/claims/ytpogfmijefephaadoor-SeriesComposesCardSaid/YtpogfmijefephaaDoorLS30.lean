/-
  Walks: the law SeriesComposes. Conditions: none.
-/
import Derived.Test.YtpogfmijefephaaDoorLS29
set_option linter.all false

namespace Go.Pv
open Go.RowKit
section
variable {P : Program} {T : TypeId → Option TI} {s : St}
theorem appendNn0_does (hT : ∀ t ti, T t = some ti → tiOf P t = some ti) {o : Oper} {t : TypeId} {x y : Operand} (ho : o.op = .call { callee := .builtin .append, args := #[x, y], argTypes := #[t, t] }) {ti te : TI} (ht : T t = some ti) {e : TypeId} (hk : ti.kind = .slice e) (hte : T e = some te) (hsz : te.size = 1)
    {l : List PV} {k lo : Nat} (hx : s.ev x = .p (.nn l)) (hy : s.ev y = .sl k lo 0) : DoesW P o s (.p (.nn l)) s.H := by
  intro C m a w K Q R hK
  obtain ⟨dst, op, type, pos, after, guard⟩ := o
  simp only at ho
  subst ho
  have hu := ti_slice (hT _ _ ht) hk
  obtain ⟨i, d, z, h1, h2, h3, h4, h5, h6, h7, h8⟩ := tiOf_parts (hT _ _ hte)
  have h := R.ev x
  rw [hx] at h
  have hl := h.p_inv
  obtain ⟨ad, hv⟩ : ∃ ad, a.eval x = .slice (some ad) l.length l.length := by
    generalize a.eval x = v at hl
    rcases hl.nn_inv with ⟨rfl, ad, rfl⟩ | ⟨b, off, sz, vs, rfl, _⟩
    · exact ⟨ad, rfl⟩
    · exact ⟨_, rfl⟩
  have hy' := R.ev y
  rw [hy] at hy'
  obtain ⟨ad2, cap2, hv2⟩ : ∃ ad2 cap2, a.eval y = .slice ad2 0 cap2 := by
    generalize a.eval y = v at hy'
    cases hy' with
    | sl _ _ _ _ _ hs =>
      rcases hs with ⟨_, ad, rfl⟩ | ⟨l', cap, _, rfl, _⟩
      · exact ⟨_, _, rfl⟩
      · exact ⟨_, _, rfl⟩
  have hr := append_nothing (P := P) (w := w) type hu h1 (by rw [h4, hsz]) (ad := some ad) (n := l.length) (cap := l.length) (x := .slice ad2 0 cap2) src_nil (Nat.le_refl _)
  have hrun : (execOp a.eval { dst := dst, op := .call { callee := .builtin .append, args := #[x, y], argTypes := #[t, t] }, type := type, pos := pos, after := after, guard := guard }).run P w = .ok (.value (.slice (some ad) l.length l.length)) w := by
    simp only [BigFrame.execOp_builtin, BigFrame.builtin_append, List.map_toArray, List.map_cons, List.map_nil, hv, hv2, Sem.run_bind, hr, Result.andThen_ok, Sem.run_pure]
  unfold Oper.wp
  rw [hrun]
  rw [hv] at hl
  exact hK _ m w R (.p _ _ hl)
theorem appendNn0_loc (hT : ∀ t ti, T t = some ti → tiOf P t = some ti) {o : Oper} {t : TypeId} {x y : Operand} (ho : o.op = .call { callee := .builtin .append, args := #[x, y], argTypes := #[t, t] }) {ti te : TI} (ht : T t = some ti) {e : TypeId} (hk : ti.kind = .slice e) (hte : T e = some te) (hsz : te.size = 1)
    {l : List PV} {k lo : Nat} (hx : s.ev x = .p (.nn l)) (hy : s.ev y = .sl k lo 0) : Loc1 P o s (.p (.nn l)) s.H := by
  have hx2 : x ∈ o.op.operands := by rw [ho]; simp [Op.operands, Call.operands]
  have hy2 : y ∈ o.op.operands := by rw [ho]; simp [Op.operands, Call.operands]
  refine ⟨fun s2 hn ha hH => ?_, fun hf => by simp [ho, isT] at hf, fun hf => by simp [ho, isW] at hf⟩
  rw [← hH]
  exact appendNn0_does hT ho ht hk hte hsz ((ha _ hx2).trans hx) ((ha _ hy2).trans hy)
theorem runs_opD {draw : Bool} {all : Array Oper} {rest : List Oper} {K : St → Prop} {o : Oper} {av : AV} {H' : Heap} (h1 : Loc1 P o s av H') (hg : guardA all s o = some true) (hd : dstOk s o.dst)
    (h : Runs P draw all rest K (({ s with H := H' } : St).put o.dst av)) : Runs P draw all (o :: rest) K s := by
  obtain ⟨s', hr, hK⟩ := h
  exact ⟨s', .cons (.op s _ _ hg (dstOk_spec hd) (h1.here s rfl (fun _ _ => rfl) rfl) fun _ => h1) hr, hK⟩
theorem runs_at {draw : Bool} {all : Array Oper} {K : St → Prop} (n : Nat) {l : List Oper} (h : Runs P draw all (l.take n) (fun s' => Runs P draw all (l.drop n) K s') s) : Runs P draw all l K s := by
  have gen : ∀ (l1 l2 : List Oper) (s s1 s2 : St), Run1 P draw all l1 s s1 → Run1 P draw all l2 s1 s2 → Run1 P draw all (l1 ++ l2) s s2 := by
    intro l1
    induction l1 with
    | nil => intro l2 s s1 s2 h1 h2; cases h1; exact h2
    | cons o r ih => intro l2 s s1 s2 h1 h2; cases h1 with | cons a b => exact .cons a (ih l2 _ _ _ b h2)
  obtain ⟨s1, h1, s2, h2, hK⟩ := h
  exact ⟨s2, by have := gen _ _ _ _ _ h1 h2; rwa [List.take_append_drop] at this, hK⟩
end
end Go.Pv

namespace Go.Proofs.YtpogfmijefephaaDoor
open Go.Pv

theorem eownG_c (w : List Int) (hl : w.length ≤ 1000000000) : FnG Tryd.prog 22 [.list (il w)] (.sl 0 0 w.length) [.own (opl (il w))] := by
  refine fng_of tab_ok Tryd.func22 rfl (by kernel_rfl) (by rw [Tryd.ntmps22]; exact Nat.le_add_left 1 _) ?_; rw [Tryd.ntmps22]
  refine qm ?_
  refine hk_region fun K hK => runs_eval tab_ok ?_
  simp only [ev0, evA, evB, evP, fl, gp, tab, simprocAttr, reduceCtorEq, reduceIte]
  refine fin_run trivial (hK _ ?_) <;> clear hK <;> clear K
  refine qa (qm ?_)
  refine hk_region fun K hK => runs_eval tab_ok ?_
  simp only [ev0, evA, evB, evP, fl, gp, tab, simprocAttr, reduceCtorEq, reduceIte]
  refine fin_run ?_ (hK _ ?_) <;> clear hK <;> clear K
  · (first | exact trivial | omega | (simp only [In64] at *; omega) | (simp [In64] at *; omega) | (simp_all; done) | skip)
  refine qa (qk ?_)
  simp only [Tryd.results22, PostG, endG, rvsA, rvA, mkTup, ev0, evA, evB, evP, fl, gp, tab, simprocAttr, reduceCtorEq, reduceIte]
  all_goals (exact ⟨[0], rfl, rfl, by simp only [leq, leA, ev0, evA, evB, evP, fl, gp, tab, simprocAttr, reduceCtorEq, reduceIte] <;> first | trivial | omega⟩)
theorem eol_opl (w : List Int) : opl (il w) = ol w := rfl

/-- The numbers, each put where it stands. -/
def ins (z : Int) (l : List Int) : List Int := l.takeWhile (· < z) ++ (z :: l.dropWhile (· < z))
def fac (n : Nat) (T : Nat → Nat → Bool) (k : Nat) : Int := (((thl n (T k)).length / (thl n (T (k + 1))).length : Nat) : Int)
def fos (n : Nat) (T : Nat → Nat → Bool) : Nat → List Int
  | 0 => []
  | k + 1 => ins (fac n T k) (fos n T k)
theorem ins_len (z : Int) (l : List Int) : (ins z l).length = l.length + 1 := by
  unfold ins
  rw [List.length_append, List.length_cons]
  have : (l.takeWhile (· < z)).length + (l.dropWhile (· < z)).length = l.length := by rw [← List.length_append, List.takeWhile_append_dropWhile]
  omega
theorem fos_len (n : Nat) (T : Nat → Nat → Bool) : ∀ k, (fos n T k).length = k
  | 0 => rfl
  | k + 1 => by show (ins _ _).length = _; rw [ins_len, fos_len n T k]
theorem ins_at {z : Int} {l : List Int} {j : Nat} (hj : j ≤ l.length) (h1 : ∀ i, i < j → l.getD i 0 < z) (h2 : j < l.length → ¬ l.getD j 0 < z) : ins z l = l.take j ++ (z :: l.drop j) := by
  unfold ins
  suffices h : l.takeWhile (· < z) = l.take j ∧ l.dropWhile (· < z) = l.drop j by rw [h.1, h.2]
  induction l generalizing j with
  | nil => simp
  | cons x r ih =>
    cases j with
    | zero =>
      have := h2 (by simp)
      simp at this
      simp [List.takeWhile, List.dropWhile, show decide (x < z) = false from decide_eq_false (by omega)]
    | succ j =>
      have h0 := h1 0 (by omega)
      simp at h0
      obtain ⟨g1, g2⟩ := ih (j := j) (by simpa using hj) (fun i hi => by have := h1 (i + 1) (by omega); simpa using this) (fun hj2 => by have := h2 (by simpa using hj2); simpa using this)
      simp [List.takeWhile, List.dropWhile, h0, g1, g2]

section
variable {n e : Nat} {m : List Int}

/-- Things, conjugated by the things of a list. -/
def cjs (n : Nat) (f : Nat → Nat → Nat) (e x : Nat) (l : List Int) : List Int := l.map fun z => ((cjr n f e x z.toNat : Nat) : Int)
theorem cjs_succ (n : Nat) (f : Nat → Nat → Nat) (e x : Nat) {l : List Int} {i : Nat} (hi : i < l.length) : cjs n f e x (l.take (i + 1)) = cjs n f e x (l.take i) ++ [((cjr n f e x (l.getD i 0).toNat : Nat) : Int)] := by
  unfold cjs
  rw [List.take_succ_eq_append_getElem hi, List.map_append]
  have : l[i] = l.getD i 0 := by simp [List.getD, List.getElem?_eq_getElem hi]
  rw [this]; rfl
theorem cjs_len (n : Nat) (f : Nat → Nat → Nat) (e x : Nat) (l : List Int) : (cjs n f e x l).length = l.length := by simp [cjs]

theorem mxn_span {f : Nat → Nat → Nat} (G : Grp n f e) {p q : Nat → Bool} (hp : Sub n f e p) (h : Mxn n f e p q) {x : Nat} (hx : x < n) (px : p x = true) (qx : q x = false) :
    ∀ a, a < n → (p a = true ↔ Gen n f e (tst (thl n q ++ cjs n f e x (thl n p))) a) := by
  have hin : ∀ c, c < n → (tst (thl n q ++ cjs n f e x (thl n p)) c = true ↔ q c = true ∨ ∃ b, b < n ∧ p b = true ∧ cjr n f e x b = c) := fun c hc => by
    unfold tst
    rw [decide_eq_true_eq, List.mem_append, mem_thl_n hc]
    refine or_congr Iff.rfl ?_
    unfold cjs
    rw [List.mem_map]
    constructor
    · rintro ⟨z, hz, h2⟩
      obtain ⟨b, b1, b2, rfl⟩ := mem_thl.1 hz
      rw [Int.toNat_natCast] at h2
      exact ⟨b, b1, b2, by omega⟩
    · rintro ⟨b, b1, b2, h2⟩
      exact ⟨_, (mem_thl_n b1).2 b2, by rw [Int.toNat_natCast, h2]⟩
  intro a ha
  constructor
  · intro pa
    obtain ⟨t, ht⟩ := gen_ex n f e (tst (thl n q ++ cjs n f e x (thl n p)))
    refine (ht a ha).1 (h.mx x hx px qx t (gen_sub G ht) (fun y hy hq => (ht y hy).2 (Gen.mem G hy ((hin y hy).2 (.inl hq)))) (fun b hb pb => ?_) a ha pa)
    have hc := G.cjr_lt hx hb
    exact (ht _ hc).2 (Gen.mem G hc ((hin _ hc).2 (.inr ⟨b, hb, pb, rfl⟩)))
  · intro hg
    refine hg.sub G hp fun b hb hc => ?_
    rcases (hin b hb).1 hc with h1 | ⟨c, c1, c2, rfl⟩
    · exact h.le b hb h1
    · exact cjr_in G hp hx c1 px c2
theorem mxn_shf {f : Nat → Nat → Nat} (G : Grp n f e) {p q : Nat → Bool} (hp : Sub n f e p) (h : Mxn n f e p q) {a : Nat} (ha : a < n) (pa : p a = true) : thl n (shf n f e q a) = thl n q := thl_congr fun y hy => by
  rw [G.shf_back ha hy, Bool.eq_iff_iff]
  have hi := G.iv_lt ha
  constructor
  · intro h1
    have := h.nml a _ ha (G.cjr_lt hy hi) pa h1
    rwa [G.cjr_vi hy ha] at this
  · exact fun h1 => h.nml _ y hi hy (hp.inv _ ha pa) h1

set_option maxHeartbeats 8000000 in
theorem factorsOf_ok (h : GT n m n e) {T : Nat → Nat → Bool} {Z : Nat} (hC : Cps n (op m n) e T Z) : FnC Tryd.prog 21 [gp n m, .list (ll (cht n T Z))] (.tup [.list (il (fos n T Z)), fl (0, 0)]) := by
  have G := h.2.2
  have hb := h.2.1.big
  have hml := h.2.1.len
  have hsq := sq_le hb
  have hZ := hC.short
  have hlen := cht_len n T Z
  have hll := ll_length (cht n T Z)
  have hg : ∀ i, i ≤ Z → (cht n T Z).getD i [] = thl n (T i) := fun i hi => cht_get hi
  have hall : (thl n (T 0)).length = n := by rw [hC.all, thl_len]; unfold thn'; rw [List.filter_eq_self.2 fun _ _ => rfl, List.length_range]
  have hlast := hC.last
  have hl0 := ll_get (ls := cht n T Z) (i := 0) (by omega)
  rw [hg 0 (Nat.zero_le _)] at hl0
  have hlK := ll_get (ls := cht n T Z) (i := Z) (by omega)
  rw [hg Z (Nat.le_refl _)] at hlK
  refine fnc_of tab_ok Tryd.func21 rfl (by kernel_rfl) (by rw [Tryd.ntmps21]; exact Nat.le_add_left 2 _) ?_; rw [Tryd.ntmps21]
  refine qm ?_
  refine hk_region fun K hK => runs_eval tab_ok ?_
  simp only [ev0, evA, evB, evP, fl, gp, tab, simprocAttr, reduceCtorEq, reduceIte]
  refine fin_run ?_ (hK _ ?_) <;> clear hK <;> clear K
  · (first | exact trivial | omega | (simp only [In64] at *; omega) | (simp [In64] at *; omega) | (simp_all; done) | skip)
  refine qa (qm ?_)
  refine hk_region fun K hK => runs_eval tab_ok ?_
  simp only [ev0, evA, evB, evP, fl, gp, tab, simprocAttr, reduceCtorEq, reduceIte]
  refine fin_stop trivial (runs_call (gf_c n m (by omega)) rfl rfl rfl (by simp only [dstOk, Nat.reduceLT]) (by repeat (first | exact trivial | constructor)) (runs_eval tab_ok ?_))
  simp only [ev0, evA, evB, evP, fl, gp, tab, simprocAttr, reduceCtorEq, reduceIte, gf_of h]
  refine fin_run ?_ (hK _ ?_) <;> clear hK <;> clear K
  · (first | exact trivial | omega | (simp only [In64] at *; omega) | (simp [In64] at *; omega) | (simp_all; done) | skip)
  refine qa (qm (qm ?_))
  refine hk_region fun K hK => runs_eval tab_ok ?_
  simp only [ev0, evA, evB, evP, fl, gp, tab, simprocAttr, reduceCtorEq, reduceIte]
  refine fin_run ?_ (hK _ ?_) <;> clear hK <;> clear K
  · (first | exact trivial | omega | (simp only [In64] at *; omega) | (simp [In64] at *; omega) | (simp_all; done) | skip)
  refine qa ?_
  refine hk_cond rfl (fun hC1 => ?_) (fun hC1 => ?_)
  · cases hC1
  · (try simp only [nhs] at hC1)
    refine qh (qa (qm (qm ?_)))
    refine hk_region fun K hK => runs_eval tab_ok ?_
    simp only [ev0, evA, evB, evP, fl, gp, tab, simprocAttr, reduceCtorEq, reduceIte, ll_length, hlen, decide_eq_false (show ¬ ((Z + 1 : Nat) : Int) < 1 by omega)]
    refine fin_run trivial (hK _ ?_) <;> clear hK <;> clear K
    refine qa ?_
    refine hk_cond rfl (fun hC2 => ?_) (fun hC2 => ?_)
    · (try simp only [nhs] at hC2)
      omega
    · (try simp only [nhs] at hC2)
      refine qh (qa (qm (qm ?_)))
      refine hk_draw mixed (by kernel_rfl) fun K hK => runs_eval tab_ok ?_
      simp only [ev0, evA, evB, evP, fl, gp, tab, simprocAttr, reduceCtorEq, reduceIte, ll_length, hlen, hl0, il_length, hlK, hall, hlast, Int.add_sub_cancel, Int.natCast_add, Int.cast_ofNat_Int]
      refine fin_run ?_ (hK _ ?_) <;> clear hK <;> clear K
      · (first | exact trivial | omega | (simp only [In64] at *; omega) | (simp [In64] at *; omega) | (simp_all; done) | skip)
      refine qa ?_
      refine hk_cond rfl (fun hC3 => ?_) (fun hC3 => ?_)
      · cases hC3
      · (try simp only [nhs] at hC3)
        refine qh (qa (qm (qm ?_)))
        refine hk_region fun K hK => runs_eval tab_ok ?_
        simp only [ev0, evA, evB, evP, fl, gp, tab, simprocAttr, reduceCtorEq, reduceIte]
        refine fin_run trivial (hK _ ?_) <;> clear hK <;> clear K
        refine qa (ql ?_)
        refine hk_loop (ι := Nat) (fun i => ⟨195, [(1, .p (.list (ll (cht n T Z)))), (2, .ptr 0 0), (5, .ptr 1 0), (6, .ptr 2 0), (7, .p (.int .i64 i))], [.own [.p (.int .i64 n), .p (.list (il m))], .own [.p (.int .i64 0), .p (.int .i64 0)], .own [.p (.int .i64 0), .p (.int .i64 0)]]⟩) (fun i => i ≤ Z + 1) (fun i => Z + 1 - i) 0 (Nat.zero_le _) [0, 1, 2] (by simp only [leq, leA, ev0, evA, evB, evP, fl, gp, tab, simprocAttr, reduceCtorEq, reduceIte] <;> trivial) fun i hi => ?_
        refine qm (qm ?_)
        refine hk_region fun K hK => runs_eval tab_ok ?_
        simp only [ev0, evA, evB, evP, fl, gp, tab, simprocAttr, reduceCtorEq, reduceIte, ll_length, hlen]
        refine fin_run trivial (hK _ ?_) <;> clear hK <;> clear K
        refine qa ?_
        refine hk_cond rfl (fun hC4 => ?_) (fun hC4 => ?_)
        · (try simp only [nhs] at hC4)
          have hik : i ≤ Z := by omega
          have hli := ll_get (ls := cht n T Z) (i := i) (by omega)
          rw [hg i hik] at hli
          have hlti := thl_le n (T i)
          refine qh (qa (qm (ql (qm ?_))))
          refine hk_draw2 mixed fun K hK => runs2_eval tab_ok ?_
          simp only [evD, ev0, evA, evB, evP, fl, gp, tab, simprocAttr, reduceCtorEq, reduceIte, hli, lf_thl, decide_eq_false (show ¬ (0 : Int) = 1 by omega)]
          refine fin2_stop ?_ (runs2_call (listFault_c n m (thl n (T i)) (by omega)) rfl rfl rfl rfl (by simp only [dstOk, Nat.reduceLT]) (by repeat (first | exact trivial | constructor)) (runs2_eval tab_ok ?_))
          · (first | exact trivial | omega | (simp only [In64] at *; omega) | (simp [In64] at *; omega) | (simp_all; done) | skip)
          simp only [evD, ev0, evA, evB, evP, fl, gp, tab, simprocAttr, reduceCtorEq, reduceIte, hli, lf_thl, decide_eq_false (show ¬ (0 : Int) = 1 by omega)]
          refine fin2_stop ?_ (runs2_call (closed_c h (T i) true (by simp [hC.sub i hik])) rfl rfl rfl rfl (by simp only [dstOk, Nat.reduceLT]) (by repeat (first | exact trivial | constructor)) (runs2_eval tab_ok ?_))
          · (first | exact trivial | omega | (simp only [In64] at *; omega) | (simp [In64] at *; omega) | (simp_all; done) | skip)
          simp only [evD, ev0, evA, evB, evP, fl, gp, tab, simprocAttr, reduceCtorEq, reduceIte, hli, lf_thl, decide_eq_false (show ¬ (0 : Int) = 1 by omega)]
          refine fin2_run ?_ (hK _ _ (by first | kernel_rfl | rfl) ?_) <;> clear hK <;> clear K
          · (first | exact trivial | omega | (simp only [In64] at *; omega) | (simp [In64] at *; omega) | (simp_all; done) | skip)
          refine qa ?_
          refine hk_cond rfl (fun hC5 => ?_) (fun hC5 => ?_)
          · cases hC5
          · (try simp only [nhs] at hC5)
            refine qh (qd (qa ?_))
            refine hk_region fun K hK => runs_eval tab_ok ?_
            simp only [ev0, evA, evB, evP, fl, gp, tab, simprocAttr, reduceCtorEq, reduceIte]
            refine fin_run ?_ (hK _ ?_) <;> clear hK <;> clear K
            · (first | exact trivial | omega | (simp only [In64] at *; omega) | (simp [In64] at *; omega) | (simp_all; done) | skip)
            refine qa ?_
            refine ⟨i + 1, [0, 1, 2], by omega, by omega, ?_⟩
            simp only [leq, leA, ev0, evA, evB, evP, fl, gp, tab, simprocAttr, reduceCtorEq, reduceIte] <;> omega
        · (try simp only [nhs] at hC4)
          refine qj (qc (qc (qf (qa (qm ?_)))))
          refine hk_region fun K hK => runs_eval tab_ok ?_
          simp only [ev0, evA, evB, evP, fl, gp, tab, simprocAttr, reduceCtorEq, reduceIte]
          refine fin_run trivial (hK _ ?_) <;> clear hK <;> clear K
          refine qa (qm (qm ?_))
          refine hk_own0 8 rfl ?_
          refine hk_region fun K hK => runs_eval tab_ok ?_
          simp only [ev0, evA, evB, evP, fl, gp, tab, simprocAttr, reduceCtorEq, reduceIte]
          refine fin_run trivial (hK _ ?_) <;> clear hK <;> clear K
          refine qa (ql ?_)
          refine hk_loop (ι := Nat) (fun k => ⟨195, [(1, .p (.list (ll (cht n T Z)))), (2, .ptr 0 0), (5, .ptr 1 0), (6, .ptr 2 0), (8, .sl 3 0 (fos n T k).length), (9, .p (.int .i64 ((k + 1 : Nat) : Int)))], [.own [.p (.int .i64 n), .p (.list (il m))], .own [.p (.int .i64 0), .p (.int .i64 0)], .own [.p (.int .i64 0), .p (.int .i64 0)], .own (ol (fos n T k))]⟩) (fun k => k ≤ Z) (fun k => Z - k) 0 (Nat.zero_le _) [0, 1, 2, 3] (by simp only [leq, leA, ev0, evA, evB, evP, fl, gp, tab, simprocAttr, reduceCtorEq, reduceIte] <;> first | trivial | simp [fos, ol_nil]) fun k hk => ?_
          have hfl := fos_len n T k
          refine qm (qm ?_)
          refine hk_region fun K hK => runs_eval tab_ok ?_
          simp only [ev0, evA, evB, evP, fl, gp, tab, simprocAttr, reduceCtorEq, reduceIte, ll_length, hlen]
          refine fin_run trivial (hK _ ?_) <;> clear hK <;> clear K
          refine qa ?_
          refine hk_cond rfl (fun hC6 => ?_) (fun hC6 => ?_)
          · (try simp only [nhs] at hC6)
            have hkZ : k < Z := by omega
            have hM := hC.mxn k hkZ
            have hsk := hC.sub k hk
            have hup := ll_get (ls := cht n T Z) (i := k) (by omega)
            rw [hg k hk] at hup
            have hdn := ll_get (ls := cht n T Z) (i := k + 1) (by omega)
            rw [hg (k + 1) hkZ] at hdn
            have hkm : ((k + 1 : Nat) : Int) - 1 = (k : Int) := by omega
            have l1 := thl_le n (T k)
            have l2 := thl_le n (T (k + 1))
            have hlt2 := hM.lt
            have e1 : (thl n (T k)).length = (mem n (T k)).length := thl_len _ _
            have e2 : (thl n (T (k + 1))).length = (mem n (T (k + 1))).length := thl_len _ _
            have hpos := (pix_at G.el hM.sub.one).1
            refine qh (qa (qm (ql (qm ?_))))
            refine hk_draw mixed (by kernel_rfl) fun K hK => runs_eval tab_ok ?_
            simp only [ev0, evA, evB, evP, fl, gp, tab, simprocAttr, reduceCtorEq, reduceIte, hkm, hup, hdn]
            refine fin_run ?_ (hK _ ?_) <;> clear hK <;> clear K
            · (first | exact trivial | omega | (simp only [In64] at *; omega) | (simp [In64] at *; omega) | (simp_all; done) | skip)
            refine qa (qm (qm ?_))
            refine hk_region fun K hK => runs_eval tab_ok ?_
            simp only [ev0, evA, evB, evP, fl, gp, tab, simprocAttr, reduceCtorEq, reduceIte]
            refine fin_stop trivial (runs_call (parted_r n (T (k + 1)) (T k) hb true (by simp only [true_iff]; exact hM.le)) rfl rfl rfl (by simp only [dstOk, Nat.reduceLT]) (by repeat (first | exact trivial | constructor)) (runs_eval tab_ok ?_))
            simp only [ev0, evA, evB, evP, fl, gp, tab, simprocAttr, reduceCtorEq, reduceIte]
            refine fin_run trivial (hK _ ?_) <;> clear hK <;> clear K
            refine qa ?_
            refine hk_cond rfl (fun hC7 => ?_) (fun hC7 => ?_)
            · cases hC7
            · (try simp only [nhs] at hC7)
              refine qh (qa (qm (qm ?_)))
              refine hk_region fun K hK => runs_eval tab_ok ?_
              simp only [ev0, evA, evB, evP, fl, gp, tab, simprocAttr, reduceCtorEq, reduceIte]
              refine fin_run trivial (hK _ ?_) <;> clear hK <;> clear K
              refine qa (ql ?_)
              refine hk_loop (ι := Nat) (fun i => ⟨195, [(1, .p (.list (ll (cht n T Z)))), (2, .ptr 0 0), (5, .ptr 1 0), (6, .ptr 2 0), (8, .sl 3 0 (fos n T k).length), (9, .p (.int .i64 ((k + 1 : Nat) : Int))), (10, .p (.list (il (thl n (T k))))), (11, .p (.list (il (thl n (T (k + 1)))))), (12, .p (.int .i64 i))], [.own [.p (.int .i64 n), .p (.list (il m))], .own [.p (.int .i64 0), .p (.int .i64 0)], .own [.p (.int .i64 0), .p (.int .i64 0)], .own (ol (fos n T k))]⟩) (fun i => i ≤ (thl n (T k)).length) (fun i => (thl n (T k)).length - i) 0 (Nat.zero_le _) [0, 1, 2, 3] (by simp only [leq, leA, ev0, evA, evB, evP, fl, gp, tab, simprocAttr, reduceCtorEq, reduceIte] <;> first | trivial | omega) fun i hi => ?_
              refine qm (qm ?_)
              refine hk_region fun K hK => runs_eval tab_ok ?_
              simp only [ev0, evA, evB, evP, fl, gp, tab, simprocAttr, reduceCtorEq, reduceIte, il_length]
              refine fin_run trivial (hK _ ?_) <;> clear hK <;> clear K
              refine qa ?_
              refine hk_cond rfl (fun hC8 => ?_) (fun hC8 => ?_)
              · (try simp only [nhs] at hC8)
                have hlt : i < (thl n (T k)).length := by omega
                obtain ⟨x, x1, x2, x3⟩ := thl_get hlt
                have hsh := mxn_shf G hsk hM x1 x2
                refine qh (qa (qm (ql (qm ?_))))
                refine hk_draw mixed (by kernel_rfl) fun K hK => runs_eval tab_ok ?_
                simp only [ev0, evA, evB, evP, fl, gp, tab, simprocAttr, reduceCtorEq, reduceIte, il_get hlt, x3]
                refine fin_stop ?_ (runs_call (shifted_r h (T (k + 1)) x1) rfl rfl rfl (by simp only [dstOk, Nat.reduceLT]) (by repeat (first | exact trivial | constructor)) (runs_eval tab_ok ?_))
                · (first | exact trivial | omega | (simp only [In64] at *; omega) | (simp [In64] at *; omega) | (simp_all; done) | skip)
                simp only [ev0, evA, evB, evP, fl, gp, tab, simprocAttr, reduceCtorEq, reduceIte, il_get hlt, x3]
                refine fin_stop trivial (runs_call (ints_c (thl n (shf n (op m n) e (T (k + 1)) x)) (thl n (T (k + 1))) (by have := thl_le n (shf n (op m n) e (T (k + 1)) x); omega)) rfl rfl rfl (by simp only [dstOk, Nat.reduceLT]) (by repeat (first | exact trivial | constructor)) (runs_eval tab_ok ?_))
                simp only [ev0, evA, evB, evP, fl, gp, tab, simprocAttr, reduceCtorEq, reduceIte, decide_eq_true hsh, il_get hlt, x3]
                refine fin_run ?_ (hK _ ?_) <;> clear hK <;> clear K
                · (first | exact trivial | omega | (simp only [In64] at *; omega) | (simp [In64] at *; omega) | (simp_all; done) | skip)
                refine qa ?_
                refine hk_cond rfl (fun hC9 => ?_) (fun hC9 => ?_)
                · cases hC9
                · (try simp only [nhs] at hC9)
                  refine qh (qd (qa ?_))
                  refine hk_region fun K hK => runs_eval tab_ok ?_
                  simp only [ev0, evA, evB, evP, fl, gp, tab, simprocAttr, reduceCtorEq, reduceIte]
                  refine fin_run ?_ (hK _ ?_) <;> clear hK <;> clear K
                  · (first | exact trivial | omega | (simp only [In64] at *; omega) | (simp [In64] at *; omega) | (simp_all; done) | skip)
                  refine qa ?_
                  refine ⟨i + 1, [0, 1, 2, 3], by omega, by omega, ?_⟩
                  simp only [leq, leA, ev0, evA, evB, evP, fl, gp, tab, simprocAttr, reduceCtorEq, reduceIte] <;> first | trivial | omega
              · (try simp only [nhs] at hC8)
                refine qj (qc (qc (qf (qa (qm (qm ?_))))))
                refine hk_region fun K hK => runs_eval tab_ok ?_
                simp only [ev0, evA, evB, evP, fl, gp, tab, simprocAttr, reduceCtorEq, reduceIte, il_length]
                refine fin_run trivial (hK _ ?_) <;> clear hK <;> clear K
                refine qa ?_
                refine hk_cond rfl (fun hC10 => ?_) (fun hC10 => ?_)
                · (try simp only [nhs] at hC10)
                  omega
                · (try simp only [nhs] at hC10)
                  refine qh (qa (qm (qm ?_)))
                  refine hk_region fun K hK => runs_eval tab_ok ?_
                  simp only [ev0, evA, evB, evP, fl, gp, tab, simprocAttr, reduceCtorEq, reduceIte]
                  refine fin_run trivial (hK _ ?_) <;> clear hK <;> clear K
                  refine qa (ql ?_)
                  refine hk_loop (ι := Nat) (fun i => ⟨195, [(1, .p (.list (ll (cht n T Z)))), (2, .ptr 0 0), (5, .ptr 1 0), (6, .ptr 2 0), (8, .sl 3 0 (fos n T k).length), (9, .p (.int .i64 ((k + 1 : Nat) : Int))), (10, .p (.list (il (thl n (T k))))), (11, .p (.list (il (thl n (T (k + 1)))))), (13, .p (.int .i64 i))], [.own [.p (.int .i64 n), .p (.list (il m))], .own [.p (.int .i64 0), .p (.int .i64 0)], .own [.p (.int .i64 0), .p (.int .i64 0)], .own (ol (fos n T k))]⟩) (fun i => i ≤ (thl n (T k)).length) (fun i => (thl n (T k)).length - i) 0 (Nat.zero_le _) [0, 1, 2, 3] (by simp only [leq, leA, ev0, evA, evB, evP, fl, gp, tab, simprocAttr, reduceCtorEq, reduceIte] <;> first | trivial | omega) fun i hi => ?_
                  refine qm (qm ?_)
                  refine hk_region fun K hK => runs_eval tab_ok ?_
                  simp only [ev0, evA, evB, evP, fl, gp, tab, simprocAttr, reduceCtorEq, reduceIte, il_length]
                  refine fin_run trivial (hK _ ?_) <;> clear hK <;> clear K
                  refine qa ?_
                  refine hk_cond rfl (fun hC11 => ?_) (fun hC11 => ?_)
                  · (try simp only [nhs] at hC11)
                    have hlt : i < (thl n (T k)).length := by omega
                    obtain ⟨x, x1, x2, x3⟩ := thl_get hlt
                    have hmem : decide ((x : Int) ∈ thl n (T (k + 1))) = T (k + 1) x := by
                      rw [Bool.eq_iff_iff, decide_eq_true_eq, mem_thl_n x1]
                    refine qh (qa (qm (ql (qm (qm ?_)))))
                    refine hk_region fun K hK => runs_eval tab_ok ?_
                    simp only [ev0, evA, evB, evP, fl, gp, tab, simprocAttr, reduceCtorEq, reduceIte, il_get hlt, x3]
                    refine fin_stop ?_ (runs_call (has_r (thl n (T (k + 1))) (x : Int) (by omega)) rfl rfl rfl (by simp only [dstOk, Nat.reduceLT]) (by repeat (first | exact trivial | constructor)) (runs_eval tab_ok ?_))
                    · (first | exact trivial | omega | (simp only [In64] at *; omega) | (simp [In64] at *; omega) | (simp_all; done) | skip)
                    simp only [ev0, evA, evB, evP, fl, gp, tab, simprocAttr, reduceCtorEq, reduceIte, hmem, il_get hlt, x3]
                    refine fin_run ?_ (hK _ ?_) <;> clear hK <;> clear K
                    · (first | exact trivial | omega | (simp only [In64] at *; omega) | (simp [In64] at *; omega) | (simp_all; done) | skip)
                    refine qa ?_
                    refine hk_cond rfl (fun hC12 => ?_) (fun hC12 => ?_)
                    · (try simp only [nhs] at hC12)
                      refine qj (qc (qf (qa ?_)))
                      refine hk_region fun K hK => runs_eval tab_ok ?_
                      simp only [ev0, evA, evB, evP, fl, gp, tab, simprocAttr, reduceCtorEq, reduceIte]
                      refine fin_run ?_ (hK _ ?_) <;> clear hK <;> clear K
                      · (first | exact trivial | omega | (simp only [In64] at *; omega) | (simp [In64] at *; omega) | (simp_all; done) | skip)
                      refine qa ?_
                      refine ⟨i + 1, [0, 1, 2, 3], by omega, by omega, ?_⟩
                      simp only [leq, leA, ev0, evA, evB, evP, fl, gp, tab, simprocAttr, reduceCtorEq, reduceIte] <;> first | trivial | omega
                    · (try simp only [nhs] at hC12)
                      refine qh (qa (qm ?_))
                      refine hk_region fun K hK => runs_eval tab_ok ?_
                      simp only [ev0, evA, evB, evP, fl, gp, tab, simprocAttr, reduceCtorEq, reduceIte]
                      refine fin_stop trivial (runs_callG (eownG_c (thl n (T (k + 1))) (by omega)) rfl rfl (by first | rfl | (simp [scG, scA, sc1, opl]; done) | (simp only [scG, List.all_cons, List.all_nil, ol_sc, Bool.and_true]; rfl)) (by simp only [dstOk, Nat.reduceLT]) (by repeat (first | exact trivial | constructor)) (runs_eval tab_ok ?_))
                      simp only [shf, List.range', Blk.ren, opl_ren, ren, ren1, ev0, evA, evB, evP, fl, gp, tab, simprocAttr, reduceCtorEq, reduceIte, eol_opl]
                      refine fin_run trivial (hK _ ?_) <;> clear hK <;> clear K
                      refine qa (qm (qm ?_))
                      refine hk_region fun K hK => runs_eval tab_ok ?_
                      simp only [ev0, evA, evB, evP, fl, gp, tab, simprocAttr, reduceCtorEq, reduceIte]
                      refine fin_run trivial (hK _ ?_) <;> clear hK <;> clear K
                      refine qa (ql ?_)
                      refine hk_loop (ι := Nat) (fun j => ⟨195, [(1, .p (.list (ll (cht n T Z)))), (2, .ptr 0 0), (5, .ptr 1 0), (6, .ptr 2 0), (8, .sl 3 0 (fos n T k).length), (9, .p (.int .i64 ((k + 1 : Nat) : Int))), (10, .p (.list (il (thl n (T k))))), (11, .p (.list (il (thl n (T (k + 1)))))), (13, .p (.int .i64 i)), (14, .sl 4 0 (thl n (T (k + 1)) ++ cjs n (op m n) e x ((thl n (T k)).take j)).length), (15, .p (.int .i64 j))], [.own [.p (.int .i64 n), .p (.list (il m))], .own [.p (.int .i64 0), .p (.int .i64 0)], .own [.p (.int .i64 0), .p (.int .i64 0)], .own (ol (fos n T k)), .own (ol (thl n (T (k + 1)) ++ cjs n (op m n) e x ((thl n (T k)).take j)))]⟩) (fun j => j ≤ (thl n (T k)).length) (fun j => (thl n (T k)).length - j) 0 (Nat.zero_le _) [0, 1, 2, 3, 4] (by simp only [leq, leA, ev0, evA, evB, evP, fl, gp, tab, simprocAttr, reduceCtorEq, reduceIte, ll_takeL] <;> first | trivial | omega | simp [cjs, Go.Pv.shf]) fun j hj => ?_
                      have hcl := cjs_len n (op m n) e x ((thl n (T k)).take j)
                      rw [List.length_take] at hcl
                      have hal : (thl n (T (k + 1)) ++ cjs n (op m n) e x ((thl n (T k)).take j)).length ≤ 120 := by rw [List.length_append]; omega
                      refine qm (qm ?_)
                      refine hk_region fun K hK => runs_eval tab_ok ?_
                      simp only [ev0, evA, evB, evP, fl, gp, tab, simprocAttr, reduceCtorEq, reduceIte, il_length]
                      refine fin_run trivial (hK _ ?_) <;> clear hK <;> clear K
                      refine qa ?_
                      refine hk_cond rfl (fun hC13 => ?_) (fun hC13 => ?_)
                      · (try simp only [nhs] at hC13)
                        have hjl : j < (thl n (T k)).length := by omega
                        obtain ⟨y, y1, y2, y3⟩ := thl_get hjl
                        refine qh (qa (qm (ql ?_)))
                        refine hk_draw2 mixed fun K hK => runs2_eval tab_ok ?_
                        simp only [evD, ev0, evA, evB, evP, fl, gp, tab, simprocAttr, reduceCtorEq, reduceIte, il_get hlt, x3, il_get hjl, y3]
                        refine fin2_stop ?_ (runs2_call (c_r h x1 y1) rfl rfl rfl rfl (by simp only [dstOk, Nat.reduceLT]) (by repeat (first | exact trivial | constructor)) (runs2_eval tab_ok ?_))
                        · (first | exact trivial | omega | (simp only [In64] at *; omega) | (simp [In64] at *; omega) | (simp_all; done) | skip)
                        simp only [evD, ev0, evA, evB, evP, fl, gp, tab, simprocAttr, reduceCtorEq, reduceIte, il_get hlt, x3, il_get hjl, y3]
                        refine fin2_run ?_ (hK _ _ (by first | kernel_rfl | rfl) ?_) <;> clear hK <;> clear K
                        · (first | exact trivial | omega | (simp only [In64] at *; omega) | (simp [In64] at *; omega) | (simp_all; done) | skip)
                        refine qd (qa ?_)
                        refine hk_region fun K hK => runs_eval tab_ok ?_
                        simp only [ev0, evA, evB, evP, fl, gp, tab, simprocAttr, reduceCtorEq, reduceIte]
                        refine fin_run ?_ (hK _ ?_) <;> clear hK <;> clear K
                        · (first | exact trivial | omega | (simp only [In64] at *; omega) | (simp [In64] at *; omega) | (simp_all; done) | skip)
                        refine qa ?_
                        refine ⟨j + 1, [0, 1, 2, 3, 5], by omega, by omega, ?_⟩
                        rw [cjs_succ n (op m n) e x hjl, y3, ← List.append_assoc]
                        simp only [leq, leA, ev0, evA, evB, evP, fl, gp, tab, simprocAttr, reduceCtorEq, reduceIte, ll_takeL] <;> first | trivial | omega | (simp only [List.length_append, List.length_cons, List.length_nil]; omega) | exact congrArg ol (List.take_of_length_le (by simp only [List.length_append, List.length_cons, List.length_nil]; omega)).symm
                      · (try simp only [nhs] at hC13)
                        have hjn : j = (thl n (T k)).length := by omega
                        rw [hjn, List.take_length]
                        rw [hjn, List.take_length] at hal
                        have hqx : T (k + 1) x = false := by simpa using hC12
                        have hsp := mxn_span G hsk hM x1 x2 hqx
                        refine qj (qc (qc (qf (qa (qm ?_)))))
                        refine hk_seal 14 4 rfl rfl ?_
                        refine hk_region fun K hK => runs_eval tab_ok ?_
                        simp only [ev0, evA, evB, evP, fl, gp, tab, simprocAttr, reduceCtorEq, reduceIte]
                        refine fin_stop trivial (runs_call (span_c h (thl n (T (k + 1)) ++ cjs n (op m n) e x (thl n (T k))) (by omega) (fun z hz => by
                          rcases List.mem_append.1 hz with hz | hz
                          · obtain ⟨a, a1, _, a3⟩ := mem_thl.1 hz; exact ⟨a, a1, a3⟩
                          · obtain ⟨w, hw, rfl⟩ := List.mem_map.1 hz
                            obtain ⟨b, b1, _, rfl⟩ := mem_thl.1 hw
                            exact ⟨_, G.cjr_lt x1 (by simpa using b1), rfl⟩) (T k) hsp) rfl rfl rfl (by simp only [dstOk, Nat.reduceLT]) (by repeat (first | exact trivial | constructor)) (runs_eval tab_ok ?_))
                        simp only [ev0, evA, evB, evP, fl, gp, tab, simprocAttr, reduceCtorEq, reduceIte, il_length]
                        refine fin_run ?_ (hK _ ?_) <;> clear hK <;> clear K
                        · (first | exact trivial | omega | (simp only [In64] at *; omega) | (simp [In64] at *; omega) | (simp_all; done) | skip)
                        refine qa ?_
                        refine hk_cond rfl (fun hC14 => ?_) (fun hC14 => ?_)
                        · cases hC14
                        · (try simp only [nhs] at hC14)
                          refine qh (qd (qa ?_))
                          refine hk_region fun K hK => runs_eval tab_ok ?_
                          simp only [ev0, evA, evB, evP, fl, gp, tab, simprocAttr, reduceCtorEq, reduceIte]
                          refine fin_run ?_ (hK _ ?_) <;> clear hK <;> clear K
                          · (first | exact trivial | omega | (simp only [In64] at *; omega) | (simp [In64] at *; omega) | (simp_all; done) | skip)
                          refine qa ?_
                          refine ⟨i + 1, [0, 1, 2, 3], by omega, by omega, ?_⟩
                          simp only [leq, leA, ev0, evA, evB, evP, fl, gp, tab, simprocAttr, reduceCtorEq, reduceIte] <;> first | trivial | omega
                  · (try simp only [nhs] at hC11)
                    refine qj (qc (qc (qf (qa (qm ?_)))))
                    refine hk_region fun K hK => runs_eval tab_ok ?_
                    simp only [ev0, evA, evB, evP, fl, gp, tab, simprocAttr, reduceCtorEq, reduceIte, il_length]
                    refine fin_run ?_ (hK _ ?_) <;> clear hK <;> clear K
                    · have hq := Nat.div_le_self (thl n (T k)).length (thl n (T (k + 1))).length
                      generalize (thl n (T k)).length / (thl n (T (k + 1))).length = q at hq ⊢
                      simp only [In64]; omega
                    refine qa (qm ?_)
                    refine hk_region fun K hK => runs_eval tab_ok ?_
                    simp only [ev0, evA, evB, evP, fl, gp, tab, simprocAttr, reduceCtorEq, reduceIte]
                    refine fin_run trivial (hK _ ?_) <;> clear hK <;> clear K
                    refine qa (qm (ql ?_))
                    refine hk_loop (ι := Nat) (fun j => ⟨195, [(1, .p (.list (ll (cht n T Z)))), (2, .ptr 0 0), (5, .ptr 1 0), (6, .ptr 2 0), (8, .sl 3 0 (fos n T k).length), (9, .p (.int .i64 ((k + 1 : Nat) : Int))), (16, .p (.int .i64 (fac n T k))), (17, .p (.int .i64 j))], [.own [.p (.int .i64 n), .p (.list (il m))], .own [.p (.int .i64 0), .p (.int .i64 0)], .own [.p (.int .i64 0), .p (.int .i64 0)], .own (ol (fos n T k))]⟩) (fun j => j ≤ (fos n T k).length ∧ ∀ i, i < j → (fos n T k).getD i 0 < fac n T k) (fun j => (fos n T k).length - j) 0 ⟨Nat.zero_le _, fun i hi => by omega⟩ [0, 1, 2, 3] (by simp only [leq, leA, ev0, evA, evB, evP, fl, gp, tab, simprocAttr, reduceCtorEq, reduceIte] <;> first | trivial | omega) fun j hj => ?_
                    obtain ⟨hj1, hj2⟩ := hj
                    refine qm (qm ?_)
                    by_cases g40 : j < (fos n T k).length
                    · refine hk_region fun K hK => runs_eval tab_ok ?_
                      simp only [ev0, evA, evB, evP, fl, gp, tab, simprocAttr, reduceCtorEq, reduceIte, ol_get g40, decide_eq_true (show (j : Int) < ((fos n T k).length : Int) by omega)]
                      refine fin_run ?_ (hK _ ?_) <;> clear hK <;> clear K
                      · (first | exact trivial | omega | (simp only [In64] at *; omega) | (simp [In64] at *; omega) | (simp_all; done) | skip)
                      refine qa ?_
                      refine hk_cond rfl (fun hC15 => ?_) (fun hC15 => ?_)
                      · (try simp only [nhs] at hC15)
                        have hjl : j < (fos n T k).length := by omega
                        refine qh (qa (ql ?_))
                        refine hk_region fun K hK => runs_eval tab_ok ?_
                        simp only [ev0, evA, evB, evP, fl, gp, tab, simprocAttr, reduceCtorEq, reduceIte]
                        refine fin_run ?_ (hK _ ?_) <;> clear hK <;> clear K
                        · (first | exact trivial | omega | (simp only [In64] at *; omega) | (simp [In64] at *; omega) | (simp_all; done) | skip)
                        refine qd (qa ?_)
                        refine ⟨j + 1, [0, 1, 2, 3], ⟨by omega, fun i hi => ?_⟩, by omega, ?_⟩
                        · by_cases hij : i = j
                          · rw [hij]; exact hC15
                          · exact hj2 i (by omega)
                        · simp only [leq, leA, ev0, evA, evB, evP, fl, gp, tab, simprocAttr, reduceCtorEq, reduceIte] <;> first | trivial | omega
                      · (try simp only [nhs] at hC15)
                        have hge : ¬ (fos n T k).getD j 0 < fac n T k := hC15
                        refine qj (qc (qc (qf (qa ?_))))
                        have hT : List.take (1 + (List.drop j (fos n T k)).length) (AV.p (.int .i64 (fac n T k)) :: ol (List.drop j (fos n T k))) = AV.p (.int .i64 (fac n T k)) :: ol (List.drop j (fos n T k)) := List.take_of_length_le (by simp only [List.length_cons, ol_length]; omega)
                        have hdl : (List.drop j (fos n T k)).length = (fos n T k).length - j := List.length_drop
                        refine hk_draw mixed (by kernel_rfl) fun K hK => runs_eval tab_ok ?_
                        simp only [ev0, evA, evB, evP, fl, gp, tab, simprocAttr, reduceCtorEq, reduceIte, hT]
                        refine fin_run ?_ (hK _ ?_) <;> clear hK <;> clear K
                        · simp [cellOk, PV.one, ol_ok]
                          omega
                        refine qd (qa ?_)
                        refine hk_region fun K hK => runs_eval tab_ok ?_
                        simp only [ev0, evA, evB, evP, fl, gp, tab, simprocAttr, reduceCtorEq, reduceIte]
                        refine fin_run ?_ (hK _ ?_) <;> clear hK <;> clear K
                        · (first | exact trivial | omega | (simp only [In64] at *; omega) | (simp [In64] at *; omega) | (simp_all; done) | skip)
                        refine qa ?_
                        have hins : fos n T (k + 1) = (fos n T k).take j ++ (fac n T k :: (fos n T k).drop j) := ins_at (by omega) hj2 fun _ => hge
                        have hl5 : (List.take j (fos n T k)).length = j := by rw [List.length_take]; omega
                        refine ⟨k + 1, [0, 1, 2, 5], by omega, by omega, ?_⟩
                        rw [hins]
                        simp only [leq, leA, ev0, evA, evB, evP, fl, gp, tab, simprocAttr, reduceCtorEq, reduceIte]
                        all_goals first | trivial | omega | skip
                        refine ⟨?_, by omega⟩
                        exact (show ol (List.take j (fos n T k) ++ fac n T k :: List.drop j (fos n T k)) = ol (List.take j (fos n T k)) ++ AV.p (.int .i64 (fac n T k)) :: ol (List.drop j (fos n T k)) by simp [ol, il]).trans (List.take_of_length_le (by simp only [List.length_append, List.length_cons, ol_length]; omega)).symm
                    · refine hk_region fun K hK => runs_eval tab_ok ?_
                      simp only [ev0, evA, evB, evP, fl, gp, tab, simprocAttr, reduceCtorEq, reduceIte, decide_eq_false (show ¬ (j : Int) < ((fos n T k).length : Int) by omega)]
                      refine fin_run trivial (hK _ ?_) <;> clear hK <;> clear K
                      refine qa ?_
                      refine hk_cond rfl (fun hC15 => ?_) (fun hC15 => ?_)
                      · cases hC15
                      · have hjn : j = (fos n T k).length := by omega
                        refine qj (qc (qc (qf (qa ?_))))
                        have hz : (fos n T k).length - j = 0 := by omega
                        refine hk_draw mixed (by kernel_rfl) fun K hK => runs_at 8 ?_
                        simp only [List.take_succ_cons, List.take_zero, List.drop_succ_cons, List.drop_zero]
                        refine runs_eval tab_ok ?_
                        simp only [ev0, evA, evB, evP, fl, gp, tab, simprocAttr, reduceCtorEq, reduceIte, hz]
                        refine fin_run ?_ ?_
                        · omega
                        refine runs_opD (appendNn0_loc tab_ok rfl rfl rfl rfl rfl rfl rfl) rfl (by simp only [dstOk, Nat.reduceLT]) (runs_eval tab_ok ?_)
                        simp only [ev0, evA, evB, evP, fl, gp, tab, simprocAttr, reduceCtorEq, reduceIte, hz]
                        refine fin_run ?_ (hK _ ?_) <;> clear hK <;> clear K
                        · simp (config := { failIfUnchanged := false }) [cellOk, PV.one, ol_ok]
                          omega
                        refine qd (qa ?_)
                        refine hk_region fun K hK => runs_eval tab_ok ?_
                        simp only [ev0, evA, evB, evP, fl, gp, tab, simprocAttr, reduceCtorEq, reduceIte]
                        refine fin_run ?_ (hK _ ?_) <;> clear hK <;> clear K
                        · (first | exact trivial | omega | (simp only [In64] at *; omega) | (simp [In64] at *; omega) | (simp_all; done) | skip)
                        refine qa ?_
                        have hins : fos n T (k + 1) = (fos n T k).take j ++ (fac n T k :: (fos n T k).drop j) := ins_at (by omega) hj2 fun hh => absurd hh (by omega)
                        refine ⟨k + 1, [0, 1, 2, 4], by omega, by omega, ?_⟩
                        rw [hins]
                        simp only [leq, leA, ev0, evA, evB, evP, fl, gp, tab, simprocAttr, reduceCtorEq, reduceIte]
                        have hd0 : List.drop j (fos n T k) = [] := List.drop_eq_nil_of_le (by omega)
                        have hl5 : (List.take j (fos n T k)).length = j := by rw [List.length_take]; omega
                        rw [hd0]
                        refine ⟨congrArg ol (List.take_of_length_le (by simp only [List.length_append, List.length_cons, List.length_nil]; omega)).symm, by simp only [List.length_nil]; omega⟩
          · (try simp only [nhs] at hC6)
            have hkZ : k = Z := by omega
            rw [hkZ]
            refine qj (qc (qc (qf (qa (qm ?_)))))
            refine hk_seal 8 3 rfl rfl ?_
            refine hk_draw mixed (by kernel_rfl) fun K hK => runs_eval tab_ok ?_
            simp only [ev0, evA, evB, evP, fl, gp, tab, simprocAttr, reduceCtorEq, reduceIte]
            refine fin_run ?_ (hK _ ?_) <;> clear hK <;> clear K
            · (first | exact trivial | omega | (simp only [In64] at *; omega) | (simp [In64] at *; omega) | (simp_all; done) | skip)
            refine qa (qk ?_)
            simp only [Tryd.results21, enA, ev0, evA, evB, evP, fl, gp, tab, simprocAttr, reduceCtorEq, reduceIte]
            all_goals ((first | exact rfl | exact ⟨rfl, rfl⟩ | exact ⟨rfl, rfl, rfl⟩ | exact ⟨trivial, rfl⟩ | exact ⟨Nat.le_refl _, rfl⟩ | trivial | (simp; done)))

theorem seriesComposes_ok (hm : m.length ≤ 17592186043904) (h : GT n m n e) : FnC Tryd.prog 4 [gp n m] (.bool true) := by
  obtain ⟨T, Z, hC, hcomp⟩ := composition_ok h
  have hZ := hC.short
  have hlen := cht_len n T Z
  refine fnc_of tab_ok Tryd.func4 rfl (by kernel_rfl) (by rw [Tryd.ntmps4]; exact Nat.le_add_left 1 _) ?_; rw [Tryd.ntmps4]
  refine qm ?_
  refine hk_region fun K hK => runs_eval tab_ok ?_
  simp only [ev0, evA, evB, evP, fl, gp, tab, simprocAttr, reduceCtorEq, reduceIte]
  refine fin_run ?_ (hK _ ?_) <;> clear hK <;> clear K
  · (first | exact trivial | omega | (simp only [In64] at *; omega) | (simp [In64] at *; omega) | (simp_all; done) | skip)
  refine qa (qm ?_)
  refine hk_region fun K hK => runs_eval tab_ok ?_
  simp only [ev0, evA, evB, evP, fl, gp, tab, simprocAttr, reduceCtorEq, reduceIte]
  refine fin_stop trivial (runs_call (ownGroup_c n m hm) rfl rfl rfl (by simp only [dstOk, Nat.reduceLT]) (by repeat (first | exact trivial | constructor)) (runs_eval tab_ok ?_))
  simp only [ev0, evA, evB, evP, fl, gp, tab, simprocAttr, reduceCtorEq, reduceIte]
  refine fin_stop trivial (runs_call (hcomp) rfl rfl rfl (by simp only [dstOk, Nat.reduceLT]) (by repeat (first | exact trivial | constructor)) (runs_eval tab_ok ?_))
  simp only [ev0, evA, evB, evP, fl, gp, tab, simprocAttr, reduceCtorEq, reduceIte]
  refine fin_run ?_ (hK _ ?_) <;> clear hK <;> clear K
  · (first | exact trivial | omega | (simp only [In64] at *; omega) | (simp [In64] at *; omega) | (simp_all; done) | skip)
  refine qa (qm ?_)
  refine hk_region fun K hK => runs_eval tab_ok ?_
  simp only [ev0, evA, evB, evP, fl, gp, tab, simprocAttr, reduceCtorEq, reduceIte]
  refine fin_stop trivial (runs_call (gf_c n m (by omega)) rfl rfl rfl (by simp only [dstOk, Nat.reduceLT]) (by repeat (first | exact trivial | constructor)) (runs_eval tab_ok ?_))
  simp only [ev0, evA, evB, evP, fl, gp, tab, simprocAttr, reduceCtorEq, reduceIte, gf_of h]
  refine fin_run ?_ (hK _ ?_) <;> clear hK <;> clear K
  · (first | exact trivial | omega | (simp only [In64] at *; omega) | (simp [In64] at *; omega) | (simp_all; done) | skip)
  refine qa (qm (qm ?_))
  refine hk_region fun K hK => runs_eval tab_ok ?_
  simp only [ev0, evA, evB, evP, fl, gp, tab, simprocAttr, reduceCtorEq, reduceIte]
  refine fin_stop trivial (runs_call (seriesBegun_c) rfl rfl rfl (by simp only [dstOk, Nat.reduceLT]) (by repeat (first | exact trivial | constructor)) (runs_eval tab_ok ?_))
  simp only [ev0, evA, evB, evP, fl, gp, tab, simprocAttr, reduceCtorEq, reduceIte]
  refine fin_run ?_ (hK _ ?_) <;> clear hK <;> clear K
  · (first | exact trivial | omega | (simp only [In64] at *; omega) | (simp [In64] at *; omega) | (simp_all; done) | skip)
  refine qa ?_
  refine hk_cond rfl (fun hC1 => ?_) (fun hC1 => ?_)
  · cases hC1
  · (try simp only [nhs] at hC1)
    refine qh (qa (qm (qm ?_)))
    refine hk_region fun K hK => runs_eval tab_ok ?_
    simp only [ev0, evA, evB, evP, fl, gp, tab, simprocAttr, reduceCtorEq, reduceIte]
    refine fin_run ?_ (hK _ ?_) <;> clear hK <;> clear K
    · (first | exact trivial | omega | (simp only [In64] at *; omega) | (simp [In64] at *; omega) | (simp_all; done) | skip)
    refine qa ?_
    refine hk_cond rfl (fun hC2 => ?_) (fun hC2 => ?_)
    · cases hC2
    · (try simp only [nhs] at hC2)
      refine qh (qa (qm (qm ?_)))
      refine hk_region fun K hK => runs_eval tab_ok ?_
      simp only [ev0, evA, evB, evP, fl, gp, tab, simprocAttr, reduceCtorEq, reduceIte, ll_length, hlen]
      refine fin_run trivial (hK _ ?_) <;> clear hK <;> clear K
      refine qa ?_
      refine hk_cond rfl (fun hC3 => ?_) (fun hC3 => ?_)
      · (try simp only [nhs] at hC3)
        omega
      · (try simp only [nhs] at hC3)
        refine qh (qa (qm ?_))
        refine hk_region fun K hK => runs_eval tab_ok ?_
        simp only [ev0, evA, evB, evP, fl, gp, tab, simprocAttr, reduceCtorEq, reduceIte]
        refine fin_stop trivial (runs_call (factorsOf_ok h hC) rfl rfl rfl (by simp only [dstOk, Nat.reduceLT]) (by repeat (first | exact trivial | constructor)) (runs_eval tab_ok ?_))
        simp only [ev0, evA, evB, evP, fl, gp, tab, simprocAttr, reduceCtorEq, reduceIte]
        refine fin_run ?_ (hK _ ?_) <;> clear hK <;> clear K
        · (first | exact trivial | omega | (simp only [In64] at *; omega) | (simp [In64] at *; omega) | (simp_all; done) | skip)
        refine qa (qm ?_)
        refine hk_region fun K hK => runs_eval tab_ok ?_
        simp only [ev0, evA, evB, evP, fl, gp, tab, simprocAttr, reduceCtorEq, reduceIte]
        refine fin_run ?_ (hK _ ?_) <;> clear hK <;> clear K
        · (first | exact trivial | omega | (simp only [In64] at *; omega) | (simp [In64] at *; omega) | (simp_all; done) | skip)
        refine qa (qk ?_)
        simp only [Tryd.results4, enA, ev0, evA, evB, evP, fl, gp, tab, simprocAttr, reduceCtorEq, reduceIte]
        all_goals ((first | exact rfl | exact ⟨rfl, rfl⟩ | exact ⟨rfl, rfl, rfl⟩ | exact ⟨trivial, rfl⟩ | exact ⟨Nat.le_refl _, rfl⟩ | trivial | (simp; done)))
theorem seriesComposes_no (N : Int) (m : List Int) (hm : m.length ≤ 17592186043904) (hf : ¬ (gf N m).1 = 0) : FnC Tryd.prog 4 [gp N m] (.bool true) := by
  refine fnc_of tab_ok Tryd.func4 rfl (by kernel_rfl) (by rw [Tryd.ntmps4]; exact Nat.le_add_left 1 _) ?_; rw [Tryd.ntmps4]
  refine qm ?_
  refine hk_region fun K hK => runs_eval tab_ok ?_
  simp only [ev0, evA, evB, evP, fl, gp, tab, simprocAttr, reduceCtorEq, reduceIte]
  refine fin_run ?_ (hK _ ?_) <;> clear hK <;> clear K
  · (first | exact trivial | omega | (simp only [In64] at *; omega) | (simp [In64] at *; omega) | (simp_all; done) | skip)
  refine qa (qm ?_)
  refine hk_region fun K hK => runs_eval tab_ok ?_
  simp only [ev0, evA, evB, evP, fl, gp, tab, simprocAttr, reduceCtorEq, reduceIte]
  refine fin_stop trivial (runs_call (ownGroup_c N m hm) rfl rfl rfl (by simp only [dstOk, Nat.reduceLT]) (by repeat (first | exact trivial | constructor)) (runs_eval tab_ok ?_))
  simp only [ev0, evA, evB, evP, fl, gp, tab, simprocAttr, reduceCtorEq, reduceIte]
  refine fin_stop trivial (runs_call (composition_no N m (by omega) hf) rfl rfl rfl (by simp only [dstOk, Nat.reduceLT]) (by repeat (first | exact trivial | constructor)) (runs_eval tab_ok ?_))
  simp only [ev0, evA, evB, evP, fl, gp, tab, simprocAttr, reduceCtorEq, reduceIte]
  refine fin_run ?_ (hK _ ?_) <;> clear hK <;> clear K
  · (first | exact trivial | omega | (simp only [In64] at *; omega) | (simp [In64] at *; omega) | (simp_all; done) | skip)
  refine qa (qm ?_)
  refine hk_region fun K hK => runs_eval tab_ok ?_
  simp only [ev0, evA, evB, evP, fl, gp, tab, simprocAttr, reduceCtorEq, reduceIte]
  refine fin_stop trivial (runs_call (gf_c N m (by omega)) rfl rfl rfl (by simp only [dstOk, Nat.reduceLT]) (by repeat (first | exact trivial | constructor)) (runs_eval tab_ok ?_))
  simp only [ev0, evA, evB, evP, fl, gp, tab, simprocAttr, reduceCtorEq, reduceIte]
  refine fin_run ?_ (hK _ ?_) <;> clear hK <;> clear K
  · (first | exact trivial | omega | (simp only [In64] at *; omega) | (simp [In64] at *; omega) | (simp_all; done) | skip)
  refine qa (qm (qm ?_))
  refine hk_region fun K hK => runs_eval tab_ok ?_
  simp only [ev0, evA, evB, evP, fl, gp, tab, simprocAttr, reduceCtorEq, reduceIte]
  refine fin_stop trivial (runs_call (seriesBegun_c) rfl rfl rfl (by simp only [dstOk, Nat.reduceLT]) (by repeat (first | exact trivial | constructor)) (runs_eval tab_ok ?_))
  simp only [ev0, evA, evB, evP, fl, gp, tab, simprocAttr, reduceCtorEq, reduceIte]
  refine fin_run ?_ (hK _ ?_) <;> clear hK <;> clear K
  · (first | exact trivial | omega | (simp only [In64] at *; omega) | (simp [In64] at *; omega) | (simp_all; done) | skip)
  refine qa ?_
  refine hk_cond rfl (fun hC1 => ?_) (fun hC1 => ?_)
  · cases hC1
  · (try simp only [nhs] at hC1)
    refine qh (qa (qm (qm ?_)))
    refine hk_region fun K hK => runs_eval tab_ok ?_
    simp only [ev0, evA, evB, evP, fl, gp, tab, simprocAttr, reduceCtorEq, reduceIte]
    refine fin_run ?_ (hK _ ?_) <;> clear hK <;> clear K
    · (first | exact trivial | omega | (simp only [In64] at *; omega) | (simp [In64] at *; omega) | (simp_all; done) | skip)
    refine qa ?_
    refine hk_cond rfl (fun hC2 => ?_) (fun hC2 => ?_)
    · (try simp only [nhs] at hC2)
      refine qm ?_
      refine hk_region fun K hK => runs_eval tab_ok ?_
      simp only [ev0, evA, evB, evP, fl, gp, tab, simprocAttr, reduceCtorEq, reduceIte]
      refine fin_run trivial (hK _ ?_) <;> clear hK <;> clear K
      refine qa (qk (qb ?_))
      simp only [Tryd.results4, enA, ev0, evA, evB, evP, fl, gp, tab, simprocAttr, reduceCtorEq, reduceIte]
      all_goals ((first | exact rfl | exact ⟨rfl, rfl⟩ | exact ⟨rfl, rfl, rfl⟩ | exact ⟨trivial, rfl⟩ | exact ⟨Nat.le_refl _, rfl⟩ | trivial | (simp; done)))
    · (try simp only [nhs] at hC2)
      exact absurd hC2 hf
theorem seriesComposes_c (N : Int) (m : List Int) (hm : m.length ≤ 17592186043904) : FnC Tryd.prog 4 [gp N m] (.bool true) := by
  by_cases hf : (gf N m).1 = 0
  · obtain ⟨n, e, h, heI⟩ := gf_ok hf
    obtain rfl := h.1
    exact seriesComposes_ok hm h
  · exact seriesComposes_no N m hm hf
end
end Go.Proofs.YtpogfmijefephaaDoor
