/-
  Walks: extensions: Sizes, and the example of the document. Conditions: none.
-/
import Derived.Test.YthdmioeddgednaaE5
import Derived.Test.YthdmioeddgednaaH4
import Derived.ChangeKeysEq
set_option linter.all false
namespace Go.Pv
open Go.RowKit

/-- Two rows of three numbers, compared. -/
theorem arrEq3_does {P : Program} {T : TypeId → Option TI} {s : St} (hT : ∀ t ti, T t = some ti → tiOf P t = some ti) {o : Oper} {t u : TypeId} {x y : Operand} (ho : o.op = .binOp .eql t x y u) {ti te : TI} (ht : T t = some ti) {e : TypeId} (hk : ti.kind = .array 3 e) (hte : T e = some te) (hki : te.kind = .int .i64) (hsz : te.size = 1)
    {a b c a' b' c' : Int} (hx : s.ev x = .p (.agg [.int .i64 a, .int .i64 b, .int .i64 c])) (hy : s.ev y = .p (.agg [.int .i64 a', .int .i64 b', .int .i64 c'])) (hge : P.eqGuardType P.depth t = false) : DoesW P o s (.p (.bool (a == a' && (b == b' && c == c')))) s.H := by
  intro C m ac w K Q R hK
  have get : ∀ {z : Operand} {a b c : Int}, s.ev z = .p (.agg [.int .i64 a, .int .i64 b, .int .i64 c]) → ac.eval z = .agg #[.int .i64 a, .int .i64 b, .int .i64 c] := by
    intro z a b c hz
    have h := R.ev z
    rw [hz] at h
    generalize ac.eval z = v at h
    have h := h.p_inv
    cases h with
    | agg _ vs hl hr =>
      have h0 := (hr 0 (by simp)).int_inv
      have h1 := (hr 1 (by simp)).int_inv
      have h2 := (hr 2 (by simp)).int_inv
      congr 1
      simp only [List.length_cons, List.length_nil] at hl
      apply Array.ext
      · simp [hl]
      · intro i hi1 hi2
        match i, hi2 with
        | 0, _ => simpa [Array.getD_eq_getD_getElem?, hl] using h0
        | 1, _ => simpa [Array.getD_eq_getD_getElem?, hl] using h1
        | 2, _ => simpa [Array.getD_eq_getD_getElem?, hl] using h2
  have ex := get hx
  have ey := get hy
  have hu := ti_array (hT _ _ ht) hk
  have hue := ti_int (hT _ _ hte) hki
  obtain ⟨i, de, z, h1, h2, h3, h4, h5, h6, h7, h8⟩ := tiOf_parts (hT _ _ hte)
  have hce : P.cellsOf e = 1 := by simp [Program.cellsOf, h1, h4, hsz]
  have ag : ∀ w, (isAgg e).run P w = .ok false w := fun w => by simp [isAgg, run_underlying hue]
  have q0 : ∀ (x y z : Value) w, (part e #[x, y, z] 0).run P w = .ok x w := fun x y z w => by simp [part, ag]
  have q1 : ∀ (x y z : Value) w, (part e #[x, y, z] 1).run P w = .ok y w := fun x y z w => by simp [part, ag]
  have q2 : ∀ (x y z : Value) w, (part e #[x, y, z] 2).run P w = .ok z w := fun x y z w => by simp [part, ag]
  have en : ∀ (p q : Int) w, (Op.equalIn 9999 e (.int .i64 p) (.int .i64 q)).run P w = .ok (p == q) w := fun p q w => run_equalIn_num 9998 hue p q w
  have hr : (Op.equalIn 10000 t (.agg #[.int .i64 a, .int .i64 b, .int .i64 c]) (.agg #[.int .i64 a', .int .i64 b', .int .i64 c'])).run P w = .ok (a == a' && (b == b' && c == c')) w := by
    rw [run_equalIn_array w 9999 _ _ hu h1, hce]
    simp only [show List.range 3 = [0, 1, 2] from rfl, Op.eqItems, Sem.run_bind, q0, q1, q2, Result.andThen_ok, Nat.zero_mul, Nat.one_mul, Nat.mul_one, en]
    cases h1 : (a == a') <;> cases h2 : (b == b') <;> cases h3 : (c == c') <;> simp [q1, q2, en, h2, h3]
  have hgg : (eqGuard .eql t x y (.agg #[.int .i64 a, .int .i64 b, .int .i64 c]) (.agg #[.int .i64 a', .int .i64 b', .int .i64 c'])).run P w = .ok () w := by
    unfold eqGuard
    split <;> simp [hge]
  have hrun : (execOp ac.eval o).run P w = .ok (.value (.bool (a == a' && (b == b' && c == c')))) w := by
    simp only [execOp, ho, ex, ey, hgg, Sem.run_bind, Result.andThen_ok, run_eql_struct, hr, Sem.run_pure]
  unfold Oper.wp
  rw [hrun]
  exact hK _ m w R (.p _ _ (.bool _))

end Go.Pv
namespace Go.Proofs.Ythdmioeddgednaa
open Go.Pv

/-- A number is added at a place. -/
def inc (i : Nat) (d : Int) (u : List Int) : List Int := u.set i (u.getD i 0 + d)
theorem inc_len (i : Nat) (d : Int) (u : List Int) : (inc i d u).length = u.length := by simp [inc]
theorem inc_get {i t : Nat} {d : Int} {u : List Int} (ht : t < u.length) : (inc i d u).getD t 0 = u.getD t 0 + if t = i then d else 0 := by
  unfold inc
  rw [List.getD_eq_getElem?_getD, List.getElem?_set]
  by_cases h : i = t
  · subst h; simp [ht]
  · rw [if_neg h, if_neg (fun e => h e.symm)]; simp

/-- The equation of three things. -/
def eqR (n : Nat) (m : List Int) (a b c : Nat) : List Int :=
  inc (a * n + b) (-1) (inc (a * n + op m n b c) 1 (inc (op m n a b * n + c) (-1) (inc (b * n + c) 1 (List.replicate (n * n) 0))))
theorem eqR_len (n : Nat) (m : List Int) (a b c : Nat) : (eqR n m a b c).length = n * n := by simp [eqR, inc_len]
theorem eqR_get {n : Nat} {m : List Int} {a b c t : Nat} (ht : t < n * n) : (eqR n m a b c).getD t 0 = (if t = b * n + c then 1 else 0) + (if t = op m n a b * n + c then -1 else 0) + (if t = a * n + op m n b c then 1 else 0) + (if t = a * n + b then -1 else 0) := by
  have hz : (List.replicate (n * n) (0 : Int)).getD t 0 = 0 := by simp [ht]
  rw [eqR, inc_get (by simp [inc_len]; exact ht), inc_get (by simp [inc_len]; exact ht), inc_get (by simp [inc_len]; exact ht), inc_get (by simp; exact ht), hz]
  omega

/-- All equations, in order: the k-th of them is that of k / n / n, k / n % n, k % n. -/
def eqK (n : Nat) (m : List Int) (p : Nat) : Nat → List (Nat × List Int)
  | 0 => []
  | k + 1 => (addL p (eqK n m p k) (eqR n m (k / (n * n)) (k / n % n) (k % n))).1
theorem eqK_ech {n p : Nat} (hp : pr p) (m : List Int) : ∀ k, Ech p (n * n) (eqK n m p k)
  | 0 => Ech.nil _ _
  | k + 1 => (addL_spec hp (eqK_ech hp m k) (eqR_len n m _ _ _)).1
theorem eqK_at {n a b c : Nat} (hb : b < n) (hc : c < n) : ((a * n + b) * n + c) / (n * n) = a ∧ ((a * n + b) * n + c) / n % n = b ∧ ((a * n + b) * n + c) % n = c := by
  obtain ⟨h1, h2⟩ := dm_at (n := n) (a := a * n + b) hc
  obtain ⟨h3, h4⟩ := dm_at (n := n) (a := a) hb
  exact ⟨by rw [← Nat.div_div_eq_div_mul, h1, h3], by rw [h1, h4], h2⟩

theorem sizes_no (N : Int) (m : List Int) (p : Int) (hm : m.length ≤ 1000000000000000) (hx : ¬ (xf N m p).1 = 0) : FnC Try.prog 8 [gp N m, .int .i64 p] (.tup [.agg [.int .i64 0, .int .i64 0, .int .i64 0], fl (xf N m p)]) := by
  refine fnc_of tab_ok Try.func8 rfl (by kernel_rfl) (by rw [Try.ntmps8]; exact Nat.le_add_left 2 _) ?_; rw [Try.ntmps8]
  refine qm ?_
  refine hk_region fun K hK => runs_eval tab_ok ?_
  simp only [ev0, evA, evB, evP, fl, gp, tab, simprocAttr, reduceCtorEq, reduceIte]
  refine fin_run ?_ (hK _ ?_) <;> clear hK <;> clear K
  · (first | exact trivial | omega | (simp only [In64] at *; omega) | (simp [In64] at *; omega) | (simp_all; done) | skip)
  refine qa (qm (qm ?_))
  refine hk_region fun K hK => runs_eval tab_ok ?_
  simp only [ev0, evA, evB, evP, fl, gp, tab, simprocAttr, reduceCtorEq, reduceIte]
  refine fin_stop trivial (runs_call (xlook_c N m p hm) rfl rfl rfl (by simp only [dstOk, Nat.reduceLT]) (by repeat (first | exact trivial | constructor)) (runs_eval tab_ok ?_))
  simp only [ev0, evA, evB, evP, fl, gp, tab, simprocAttr, reduceCtorEq, reduceIte]
  refine fin_run ?_ (hK _ ?_) <;> clear hK <;> clear K
  · (first | exact trivial | omega | (simp only [In64] at *; omega) | (simp [In64] at *; omega) | (simp_all; done) | skip)
  refine qa (qm ?_)
  refine hk_region fun K hK => runs_eval tab_ok ?_
  simp only [ev0, evA, evB, evP, fl, gp, tab, simprocAttr, reduceCtorEq, reduceIte]
  refine fin_run ?_ (hK _ ?_) <;> clear hK <;> clear K
  · (first | exact trivial | omega | (simp only [In64] at *; omega) | (simp [In64] at *; omega) | (simp_all; done) | skip)
  refine qa ?_
  refine hk_cond rfl (fun hC1 => ?_) (fun hC1 => ?_)
  · (try simp only [nhs] at hC1)
    refine qm ?_
    refine hk_draw2 mixed fun K hK => runs2_eval tab_ok ?_
    simp only [evD, ev0, evA, evB, evP, fl, gp, tab, simprocAttr, reduceCtorEq, reduceIte]
    refine fin2_run ?_ (hK _ _ (by first | kernel_rfl | rfl) ?_) <;> clear hK <;> clear K
    · (first | exact trivial | omega | (simp only [In64] at *; omega) | (simp [In64] at *; omega) | (simp_all; done) | skip)
    refine qa (qk (qb ?_))
    simp only [Try.results8, enA, ev0, evA, evB, evP, fl, gp, tab, simprocAttr, reduceCtorEq, reduceIte]
    all_goals ((first | exact rfl | exact ⟨rfl, rfl⟩ | exact ⟨rfl, rfl, rfl⟩ | exact ⟨trivial, rfl⟩ | exact ⟨Nat.le_refl _, rfl⟩ | trivial | (simp; done)))
  · (try simp only [nhs] at hC1)
    exact absurd hC1 hx

def szZ (n : Nat) (m : List Int) (p : Nat) : Int := ((n * n : Nat) : Int) - ((eqK n m p (n * n * n)).length : Int)
def szB (n : Nat) (m : List Int) (p : Nat) : Int := ((spK n m p n).length : Int)

theorem sizes_ok {n e p : Nat} {m : List Int} (h : GT n m n e) (hn : n ≤ 12) (hp : pr p) :
    FnC Try.prog 8 [gp n m, .int .i64 p] (.tup [.agg [.int .i64 ((n : Int) - szB n m p), .int .i64 (szZ n m p), .int .i64 (szZ n m p - szB n m p)], fl (0, 0)]) := by
  have T := h.2.1
  have hpos := T.pos
  have hml := T.len
  have hp2 := hp.le
  have hsq : n * n ≤ 144 := Nat.mul_le_mul hn hn
  have hsq1 : 0 < n * n := Nat.mul_pos hpos hpos
  have c0 : (n : Int) * (n : Int) = ((n * n : Nat) : Int) := (Int.natCast_mul n n).symm
  have E1 := eqK_ech hp m (n * n * n) (n := n)
  have E2 := spK_ech hp m n (n := n)
  have le_n : ∀ {L : List (Nat × List Int)}, Ech p (n * n) L → L.length ≤ n * n := fun {L} hL => by
    have := nodup_le (l := (L.map (·.1)).map fun k : Nat => (k : Int)) (l' := (List.range (n * n)).map fun k : Nat => (k : Int)) (List.pairwise_map.2 (List.Pairwise.imp (fun h e => h (by omega)) hL.keys)) (fun z hz => by
      obtain ⟨k, hk, rfl⟩ := List.mem_map.1 hz
      obtain ⟨e, he, rfl⟩ := List.mem_map.1 hk
      exact List.mem_map.2 ⟨e.1, List.mem_range.2 (hL.lt e he), rfl⟩)
    simpa using this
  have l1 := le_n E1
  have l2 := le_n E2
  refine fnc_of tab_ok Try.func8 rfl (by kernel_rfl) (by rw [Try.ntmps8]; exact Nat.le_add_left 2 _) ?_; rw [Try.ntmps8]
  refine qm ?_
  refine hk_region fun K hK => runs_eval tab_ok ?_
  simp only [ev0, evA, evB, evP, fl, gp, tab, simprocAttr, reduceCtorEq, reduceIte]
  refine fin_run ?_ (hK _ ?_) <;> clear hK <;> clear K
  · (first | exact trivial | omega | (simp only [In64] at *; omega) | (simp [In64] at *; omega) | (simp_all; done) | skip)
  refine qa (qm (qm ?_))
  refine hk_region fun K hK => runs_eval tab_ok ?_
  simp only [ev0, evA, evB, evP, fl, gp, tab, simprocAttr, reduceCtorEq, reduceIte]
  refine fin_stop trivial (runs_call (xlook_c n m p (by omega)) rfl rfl rfl (by simp only [dstOk, Nat.reduceLT]) (by repeat (first | exact trivial | constructor)) (runs_eval tab_ok ?_))
  simp only [ev0, evA, evB, evP, fl, gp, tab, simprocAttr, reduceCtorEq, reduceIte, xf_of h hn hp]
  refine fin_run ?_ (hK _ ?_) <;> clear hK <;> clear K
  · (first | exact trivial | omega | (simp only [In64] at *; omega) | (simp [In64] at *; omega) | (simp_all; done) | skip)
  refine qa (qm ?_)
  refine hk_region fun K hK => runs_eval tab_ok ?_
  simp only [ev0, evA, evB, evP, fl, gp, tab, simprocAttr, reduceCtorEq, reduceIte]
  refine fin_run ?_ (hK _ ?_) <;> clear hK <;> clear K
  · (first | exact trivial | omega | (simp only [In64] at *; omega) | (simp [In64] at *; omega) | (simp_all; done) | skip)
  refine qa ?_
  refine hk_cond rfl (fun hC1 => ?_) (fun hC1 => ?_)
  · cases hC1
  · (try simp only [nhs] at hC1)
    refine qh (qa (qm ?_))
    refine hk_region fun K hK => runs_eval tab_ok ?_
    simp only [ev0, evA, evB, evP, fl, gp, tab, simprocAttr, reduceCtorEq, reduceIte]
    refine fin_stop ?_ (runs_callM [] (newRows_c p) rfl rfl ?_ (by simp only [leA, ev0, evA, evB, evP, fl, gp, tab, simprocAttr, reduceCtorEq, reduceIte]; first | trivial | (repeat constructor)) (by decide) (by first | rfl | (simp only [List.length_cons, List.length_nil, List.length_append]; decide)) (by first | rfl | (simp [scM, scA, sc1, mpKeep, notAnc]; done)) (by simp only [dstOk, Nat.reduceLT]) (runs_eval tab_ok ?_))
    · (first | exact trivial | omega | (simp only [In64] at *; omega) | (simp [In64] at *; omega) | (simp_all; done) | skip)
    · (simp only [argsM, argM1, peekG, peekS, scA, sc1, ren, ren1, List.map_cons, List.map_nil, List.append_nil, List.cons_append, List.nil_append, enA, ev0, evA, evB, evP, fl, gp, tab, simprocAttr, reduceCtorEq, reduceIte]; try trivial)
    simp only [putM, hset, List.range', Blk.ren, ren, ren1, List.map_cons, List.map_nil, List.cons_append, List.nil_append, List.append_nil, List.length_cons, List.length_nil, ev0, evA, evB, evP, fl, gp, tab, simprocAttr, reduceCtorEq, reduceIte]
    refine fin_run trivial (hK _ ?_) <;> clear hK <;> clear K
    refine qa (qm (qm ?_))
    refine hk_region fun K hK => runs_eval tab_ok ?_
    simp only [ev0, evA, evB, evP, fl, gp, tab, simprocAttr, reduceCtorEq, reduceIte]
    refine fin_run ?_ (hK _ ?_) <;> clear hK <;> clear K
    · (first | exact trivial | omega | (simp only [In64] at *; omega) | (simp [In64] at *; omega) | (simp_all; done) | skip)
    refine qa (ql ?_)
    refine hk_loop (ι := Nat) (fun a => ⟨129, [(1, .p (.int .i64 p)), (2, .ptr 0 0), (4, .ptr 1 0), (5, .ptr 2 0), (7, .ptr 3 0), (25, .p (.int .i64 n)), (26, .p (.int .i64 a))], [.own [.p (.int .i64 n), .p (.list (il m))], .own [.p (.int .i64 0), .p (.int .i64 0), .p (.int .i64 0)], .own [.p (.int .i64 0), .p (.int .i64 0)], .own [.p (.int .i64 p), .mptr 4], .mp .i64 (dOf (eqK n m p (a * n * n))) (vOf (eqK n m p (a * n * n)))]⟩) (fun a => a ≤ n) (fun a => n - a) 0 (Nat.zero_le _) [0, 1, 2, 4, 5] (by simp only [Nat.zero_mul]; simp only [leq, leA, ev0, evA, evB, evP, fl, gp, tab, simprocAttr, reduceCtorEq, reduceIte]; rfl) fun a ha => ?_
    refine qm ?_
    refine hk_region fun K hK => runs_eval tab_ok ?_
    simp only [ev0, evA, evB, evP, fl, gp, tab, simprocAttr, reduceCtorEq, reduceIte]
    refine fin_run trivial (hK _ ?_) <;> clear hK <;> clear K
    refine qa (qm ?_)
    refine hk_cond rfl (fun hC2 => ?_) (fun hC2 => ?_)
    · (try simp only [nhs] at hC2)
      have hal : a < n := by omega
      refine qh (qa (qm (ql (qm ?_))))
      refine hk_region fun K hK => runs_eval tab_ok ?_
      simp only [ev0, evA, evB, evP, fl, gp, tab, simprocAttr, reduceCtorEq, reduceIte]
      refine fin_run trivial (hK _ ?_) <;> clear hK <;> clear K
      refine qa (qm ?_)
      refine hk_region fun K hK => runs_eval tab_ok ?_
      simp only [ev0, evA, evB, evP, fl, gp, tab, simprocAttr, reduceCtorEq, reduceIte]
      refine fin_run ?_ (hK _ ?_) <;> clear hK <;> clear K
      · (first | exact trivial | omega | (simp only [In64] at *; omega) | (simp [In64] at *; omega) | (simp_all; done) | skip)
      refine qa (ql ?_)
      refine hk_loop (ι := Nat) (fun b => ⟨129, [(1, .p (.int .i64 p)), (2, .ptr 0 0), (4, .ptr 1 0), (5, .ptr 2 0), (7, .ptr 3 0), (8, .p (.int .i64 a)), (25, .p (.int .i64 n)), (26, .p (.int .i64 a)), (30, .p (.int .i64 n)), (31, .p (.int .i64 b))], [.own [.p (.int .i64 n), .p (.list (il m))], .own [.p (.int .i64 0), .p (.int .i64 0), .p (.int .i64 0)], .own [.p (.int .i64 0), .p (.int .i64 0)], .own [.p (.int .i64 p), .mptr 4], .mp .i64 (dOf (eqK n m p ((a * n + b) * n))) (vOf (eqK n m p ((a * n + b) * n)))]⟩) (fun b => b ≤ n) (fun b => n - b) 0 (Nat.zero_le _) [0, 1, 2, 3, 4] (by rw [Nat.add_zero]; simp only [leq, leA, ev0, evA, evB, evP, fl, gp, tab, simprocAttr, reduceCtorEq, reduceIte]) fun b hb => ?_
      refine qm ?_
      refine hk_region fun K hK => runs_eval tab_ok ?_
      simp only [ev0, evA, evB, evP, fl, gp, tab, simprocAttr, reduceCtorEq, reduceIte]
      refine fin_run trivial (hK _ ?_) <;> clear hK <;> clear K
      refine qa (qm ?_)
      refine hk_cond rfl (fun hC3 => ?_) (fun hC3 => ?_)
      · (try simp only [nhs] at hC3)
        have hbl : b < n := by omega
        refine qh (qa (qm (ql (qm ?_))))
        refine hk_region fun K hK => runs_eval tab_ok ?_
        simp only [ev0, evA, evB, evP, fl, gp, tab, simprocAttr, reduceCtorEq, reduceIte]
        refine fin_run trivial (hK _ ?_) <;> clear hK <;> clear K
        refine qa (qm ?_)
        refine hk_region fun K hK => runs_eval tab_ok ?_
        simp only [ev0, evA, evB, evP, fl, gp, tab, simprocAttr, reduceCtorEq, reduceIte]
        refine fin_run ?_ (hK _ ?_) <;> clear hK <;> clear K
        · (first | exact trivial | omega | (simp only [In64] at *; omega) | (simp [In64] at *; omega) | (simp_all; done) | skip)
        refine qa (ql ?_)
        refine hk_loop (ι := Nat) (fun c => ⟨129, [(1, .p (.int .i64 p)), (2, .ptr 0 0), (4, .ptr 1 0), (5, .ptr 2 0), (7, .ptr 3 0), (8, .p (.int .i64 a)), (9, .p (.int .i64 b)), (25, .p (.int .i64 n)), (26, .p (.int .i64 a)), (30, .p (.int .i64 n)), (31, .p (.int .i64 b)), (35, .p (.int .i64 n)), (36, .p (.int .i64 c))], [.own [.p (.int .i64 n), .p (.list (il m))], .own [.p (.int .i64 0), .p (.int .i64 0), .p (.int .i64 0)], .own [.p (.int .i64 0), .p (.int .i64 0)], .own [.p (.int .i64 p), .mptr 4], .mp .i64 (dOf (eqK n m p ((a * n + b) * n + c))) (vOf (eqK n m p ((a * n + b) * n + c)))]⟩) (fun c => c ≤ n) (fun c => n - c) 0 (Nat.zero_le _) [0, 1, 2, 3, 4] (by rw [Nat.add_zero]; simp only [leq, leA, ev0, evA, evB, evP, fl, gp, tab, simprocAttr, reduceCtorEq, reduceIte]) fun c hc => ?_
        refine qm ?_
        refine hk_region fun K hK => runs_eval tab_ok ?_
        simp only [ev0, evA, evB, evP, fl, gp, tab, simprocAttr, reduceCtorEq, reduceIte]
        refine fin_run trivial (hK _ ?_) <;> clear hK <;> clear K
        refine qa (qm ?_)
        refine hk_cond rfl (fun hC4 => ?_) (fun hC4 => ?_)
        · (try simp only [nhs] at hC4)
          have hcl : c < n := by omega
          have hab := T.lt hal hbl
          have hbc := T.lt hbl hcl
          have e1 := at_lt hbl hcl
          have e2 := at_lt hab hcl
          have e3 := at_lt hal hbc
          have e4 := at_lt hal hbl
          have c1 : (b : Int) * (n : Int) = ((b * n : Nat) : Int) := (Int.natCast_mul b n).symm
          have c2 : ((op m n a b : Nat) : Int) * (n : Int) = ((op m n a b * n : Nat) : Int) := (Int.natCast_mul _ n).symm
          have c3 : (a : Int) * (n : Int) = ((a * n : Nat) : Int) := (Int.natCast_mul a n).symm
          obtain ⟨k1, k2, k3⟩ := eqK_at (a := a) hbl hcl
          have hst : ∀ (i : Nat) (d : Int) (u : List Int), u.set i (u.getD i 0 + d) = inc i d u := fun _ _ _ => rfl
          have hsm : ∀ (i : Nat) (u : List Int), u.set i (u.getD i 0 - 1) = inc i (-1) u := fun i u => by unfold inc; rw [Int.sub_eq_add_neg]
          generalize hu0 : (List.replicate (n * n) (0 : Int)) = u0
          have l0 : u0.length = n * n := by rw [← hu0]; simp
          have z0 : ∀ t, t < n * n → u0.getD t 0 = 0 := fun t ht => by rw [← hu0]; simp [ht]
          generalize hu1 : inc (b * n + c) 1 u0 = u1
          have l1' : u1.length = n * n := by rw [← hu1, inc_len, l0]
          have z1 : ∀ t, t < n * n → -1 ≤ u1.getD t 0 ∧ u1.getD t 0 ≤ 1 := fun t ht => by rw [← hu1, inc_get (by omega), z0 t ht]; split <;> omega
          generalize hu2 : inc (op m n a b * n + c) (-1) u1 = u2
          have l2' : u2.length = n * n := by rw [← hu2, inc_len, l1']
          have z2 : ∀ t, t < n * n → -2 ≤ u2.getD t 0 ∧ u2.getD t 0 ≤ 2 := fun t ht => by have := z1 t ht; rw [← hu2, inc_get (by omega)]; split <;> omega
          generalize hu3 : inc (a * n + op m n b c) 1 u2 = u3
          have l3' : u3.length = n * n := by rw [← hu3, inc_len, l2']
          have z3 : ∀ t, t < n * n → -3 ≤ u3.getD t 0 ∧ u3.getD t 0 ≤ 3 := fun t ht => by have := z2 t ht; rw [← hu3, inc_get (by omega)]; split <;> omega
          have hu4 : inc (a * n + b) (-1) u3 = eqR n m a b c := by rw [← hu3, ← hu2, ← hu1, ← hu0]; rfl
          have y0 := z0 _ e1
          have y1 := z1 _ e2
          have y2 := z2 _ e3
          have y3 := z3 _ e4
          refine qh (qa (qm (ql (qm ?_))))
          refine hk_region fun K hK => runs_eval tab_ok ?_
          simp only [ev0, evA, evB, evP, fl, gp, tab, simprocAttr, reduceCtorEq, reduceIte]
          refine fin_run trivial (hK _ ?_) <;> clear hK <;> clear K
          refine qa (qm ?_)
          refine hk_region fun K hK => runs_eval tab_ok ?_
          simp only [ev0, evA, evB, evP, fl, gp, tab, simprocAttr, reduceCtorEq, reduceIte, c0, ol_replicate, hu0]
          refine fin_run ?_ (hK _ ?_) <;> clear hK <;> clear K
          · (first | exact trivial | omega | (simp only [In64] at *; omega) | (simp [In64] at *; omega) | (simp_all; done) | skip)
          refine qa (qm ?_)
          refine hk_region fun K hK => runs_eval tab_ok ?_
          simp only [ev0, evA, evB, evP, fl, gp, tab, simprocAttr, reduceCtorEq, reduceIte, at_nat, ol_get (show b * n + c < u0.length by omega), ol_set, hst, hu1]
          refine fin_run ?_ (hK _ ?_) <;> clear hK <;> clear K
          · rw [c1]; simp only [In64]; omega
          refine qa (qm ?_)
          refine hk_draw mixed (by kernel_rfl) fun K hK => runs_eval tab_ok ?_
          simp only [ev0, evA, evB, evP, fl, gp, tab, simprocAttr, reduceCtorEq, reduceIte, at_nat, ol_get (show op m n a b * n + c < u1.length by omega), ol_set, hsm, hu2]
          refine fin_stop trivial (runs_call (of_c T hal hbl) rfl rfl rfl (by simp only [dstOk, Nat.reduceLT]) (by repeat (first | exact trivial | constructor)) (runs_eval tab_ok ?_))
          simp only [ev0, evA, evB, evP, fl, gp, tab, simprocAttr, reduceCtorEq, reduceIte, at_nat, ol_get (show op m n a b * n + c < u1.length by omega), ol_set, hsm, hu2]
          refine fin_run ?_ (hK _ ?_) <;> clear hK <;> clear K
          · rw [c2]; simp only [In64]; omega
          refine qa (qm ?_)
          refine hk_draw mixed (by kernel_rfl) fun K hK => runs_eval tab_ok ?_
          simp only [ev0, evA, evB, evP, fl, gp, tab, simprocAttr, reduceCtorEq, reduceIte, at_nat, ol_get (show a * n + op m n b c < u2.length by omega), ol_set, hst, hu3]
          refine fin_stop ?_ (runs_call (of_c T hbl hcl) rfl rfl rfl (by simp only [dstOk, Nat.reduceLT]) (by repeat (first | exact trivial | constructor)) (runs_eval tab_ok ?_))
          · rw [c3]; simp only [In64]; omega
          simp only [ev0, evA, evB, evP, fl, gp, tab, simprocAttr, reduceCtorEq, reduceIte, at_nat, ol_get (show a * n + op m n b c < u2.length by omega), ol_set, hst, hu3]
          refine fin_run ?_ (hK _ ?_) <;> clear hK <;> clear K
          · simp only [In64]; omega
          refine qa (qm ?_)
          refine hk_region fun K hK => runs_eval tab_ok ?_
          simp only [ev0, evA, evB, evP, fl, gp, tab, simprocAttr, reduceCtorEq, reduceIte, at_nat, ol_get (show a * n + b < u3.length by omega), ol_set, hsm, hu4]
          refine fin_run ?_ (hK _ ?_) <;> clear hK <;> clear K
          · rw [c3]; simp only [In64]; omega
          refine qa ?_
          refine hk_seal 11 5 (w := eqR n m a b c) (by rw [eqR_len]; rfl) rfl ?_
          refine hk_region fun K hK => runs_eval tab_ok ?_
          simp only [ev0, evA, evB, evP, fl, gp, tab, simprocAttr, reduceCtorEq, reduceIte]
          refine fin_stop ?_ (runs_callM [3, 4] (add_c hp hsq1 (by omega) (eqK n m p ((a * n + b) * n + c)) (eqK_ech hp m _) (eqR n m a b c) (eqR_len n m a b c) (fun t ht => by rw [eqR_get ht]; split <;> split <;> split <;> split <;> omega)) rfl rfl ?_ (by simp only [leA, ev0, evA, evB, evP, fl, gp, tab, simprocAttr, reduceCtorEq, reduceIte]; first | trivial | (repeat constructor)) (by decide) (by first | rfl | (simp only [List.length_cons, List.length_nil, List.length_append]; decide)) (by first | rfl | (simp [scM, scA, sc1, mpKeep, notAnc]; done)) (by simp only [dstOk, Nat.reduceLT]) (runs_eval tab_ok ?_))
          · (first | exact trivial | omega | (simp only [In64] at *; omega) | (simp [In64] at *; omega) | (simp_all; done) | skip)
          · (simp only [argsM, argM1, peekG, peekS, scA, sc1, ren, ren1, List.map_cons, List.map_nil, List.append_nil, List.cons_append, List.nil_append, enA, ev0, evA, evB, evP, fl, gp, tab, simprocAttr, reduceCtorEq, reduceIte]; try trivial)
          simp only [putM, hset, List.range', Blk.ren, ren, ren1, List.map_cons, List.map_nil, List.cons_append, List.nil_append, List.append_nil, List.length_cons, List.length_nil, ev0, evA, evB, evP, fl, gp, tab, simprocAttr, reduceCtorEq, reduceIte]
          refine fin_run trivial (hK _ ?_) <;> clear hK <;> clear K
          refine qd (qa ?_)
          refine hk_region fun K hK => runs_eval tab_ok ?_
          simp only [ev0, evA, evB, evP, fl, gp, tab, simprocAttr, reduceCtorEq, reduceIte]
          refine fin_run ?_ (hK _ ?_) <;> clear hK <;> clear K
          · (first | exact trivial | omega | (simp only [In64] at *; omega) | (simp [In64] at *; omega) | (simp_all; done) | skip)
          refine qa ?_
          refine ⟨c + 1, [0, 1, 2, 3, 4], by omega, by omega, ?_⟩
          have hK : eqK n m p ((a * n + b) * n + (c + 1)) = (addL p (eqK n m p ((a * n + b) * n + c)) (eqR n m a b c)).1 := by
            show eqK n m p ((a * n + b) * n + c + 1) = _
            rw [eqK, k1, k2, k3]
          rw [hK]
          simp only [leq, leA, ev0, evA, evB, evP, fl, gp, tab, simprocAttr, reduceCtorEq, reduceIte] <;> first | trivial | omega
        · (try simp only [nhs] at hC4)
          refine qj (qc (qc (qf (qd (qa ?_)))))
          refine hk_region fun K hK => runs_eval tab_ok ?_
          simp only [ev0, evA, evB, evP, fl, gp, tab, simprocAttr, reduceCtorEq, reduceIte]
          refine fin_run ?_ (hK _ ?_) <;> clear hK <;> clear K
          · (first | exact trivial | omega | (simp only [In64] at *; omega) | (simp [In64] at *; omega) | (simp_all; done) | skip)
          refine qa ?_
          have hcn : c = n := by omega
          refine ⟨b + 1, [0, 1, 2, 3, 4], by omega, by omega, ?_⟩
          rw [show (a * n + (b + 1)) * n = (a * n + b) * n + c by rw [hcn, ← Nat.add_assoc, Nat.add_mul _ 1, Nat.one_mul]]
          simp only [leq, leA, ev0, evA, evB, evP, fl, gp, tab, simprocAttr, reduceCtorEq, reduceIte] <;> first | trivial | omega
      · (try simp only [nhs] at hC3)
        refine qj (qc (qc (qf (qd (qa ?_)))))
        refine hk_region fun K hK => runs_eval tab_ok ?_
        simp only [ev0, evA, evB, evP, fl, gp, tab, simprocAttr, reduceCtorEq, reduceIte]
        refine fin_run ?_ (hK _ ?_) <;> clear hK <;> clear K
        · (first | exact trivial | omega | (simp only [In64] at *; omega) | (simp [In64] at *; omega) | (simp_all; done) | skip)
        refine qa ?_
        have hbn : b = n := by omega
        refine ⟨a + 1, [0, 1, 2, 3, 4], by omega, by omega, ?_⟩
        rw [show (a + 1) * n * n = (a * n + b) * n by rw [hbn, Nat.add_mul _ 1, Nat.one_mul]]
        simp only [leq, leA, ev0, evA, evB, evP, fl, gp, tab, simprocAttr, reduceCtorEq, reduceIte] <;> first | trivial | omega
    · (try simp only [nhs] at hC2)
      refine qj (qc (qc (qf (qa (qm ?_)))))
      have han : a = n := by omega
      subst han
      have hE := E1.count
      have hE2 := E2.count
      refine hk_draw2 mixed fun K hK => runs2_eval tab_ok ?_
      simp only [evD, ev0, evA, evB, evP, fl, gp, tab, simprocAttr, reduceCtorEq, reduceIte, c0, hE]
      refine fin2_stop ?_ (runs2_mapLen tab_ok rfl rfl rfl rfl rfl (by simp only [dstOk, Nat.reduceLT]) (runs2_eval tab_ok ?_))
      · (first | exact trivial | omega | (simp only [In64] at *; omega) | (simp [In64] at *; omega) | (simp_all; done) | skip)
      simp only [evD, ev0, evA, evB, evP, fl, gp, tab, simprocAttr, reduceCtorEq, reduceIte, c0, hE]
      refine fin2_run ?_ (hK _ _ (by first | kernel_rfl | rfl) ?_) <;> clear hK <;> clear K
      · (first | exact trivial | omega | (simp only [In64] at *; omega) | (simp [In64] at *; omega) | (simp_all; done) | skip)
      refine qa (qm ?_)
      refine hk_region fun K hK => runs_eval tab_ok ?_
      simp only [ev0, evA, evB, evP, fl, gp, tab, simprocAttr, reduceCtorEq, reduceIte, hE2]
      refine fin_stop ?_ (runs_callM [] (xspan_c h hn hp) rfl rfl ?_ (by simp only [leA, ev0, evA, evB, evP, fl, gp, tab, simprocAttr, reduceCtorEq, reduceIte]; first | trivial | (repeat constructor)) (by decide) (by first | rfl | (simp only [List.length_cons, List.length_nil, List.length_append]; decide)) (by first | rfl | (simp [scM, scA, sc1, mpKeep, notAnc]; done)) (by simp only [dstOk, Nat.reduceLT]) (runs_eval tab_ok ?_))
      · (first | exact trivial | omega | (simp only [In64] at *; omega) | (simp [In64] at *; omega) | (simp_all; done) | skip)
      · (simp only [argsM, argM1, peekG, peekS, scA, sc1, ren, ren1, List.map_cons, List.map_nil, List.append_nil, List.cons_append, List.nil_append, enA, ev0, evA, evB, evP, fl, gp, tab, simprocAttr, reduceCtorEq, reduceIte]; try trivial)
      simp only [putM, hset, List.range', Blk.ren, ren, ren1, List.map_cons, List.map_nil, List.cons_append, List.nil_append, List.append_nil, List.length_cons, List.length_nil, ev0, evA, evB, evP, fl, gp, tab, simprocAttr, reduceCtorEq, reduceIte, hE2]
      refine fin_stop ?_ (runs_mapLen tab_ok rfl rfl rfl rfl rfl (by simp only [dstOk, Nat.reduceLT]) (runs_eval tab_ok ?_))
      · (first | exact trivial | omega | (simp only [In64] at *; omega) | (simp [In64] at *; omega) | (simp_all; done) | skip)
      simp only [ev0, evA, evB, evP, fl, gp, tab, simprocAttr, reduceCtorEq, reduceIte, hE2]
      refine fin_run ?_ (hK _ ?_) <;> clear hK <;> clear K
      · (first | exact trivial | omega | (simp only [In64] at *; omega) | (simp [In64] at *; omega) | (simp_all; done) | skip)
      refine qa (qm ?_)
      refine hk_region fun K hK => runs_eval tab_ok ?_
      simp only [ev0, evA, evB, evP, fl, gp, tab, simprocAttr, reduceCtorEq, reduceIte]
      refine fin_run ?_ (hK _ ?_) <;> clear hK <;> clear K
      · (first | exact trivial | omega | (simp only [In64] at *; omega) | (simp [In64] at *; omega) | (simp_all; done) | skip)
      refine qa (qk ?_)
      simp only [Try.results8, enA, ev0, evA, evB, evP, fl, gp, tab, simprocAttr, reduceCtorEq, reduceIte]
      all_goals (simp [szB, szZ])

theorem g_ring2 : ∃ e, GT 2 [0, 1, 1, 0] 2 e := by
  obtain ⟨n, e, hg, _⟩ := gf_ok (N := 2) (m := [0, 1, 1, 0]) (by decide)
  have : n = 2 := by have := hg.1; omega
  subst this
  exact ⟨e, hg⟩

theorem begun_x : FnC Try.prog 7 [] (.bool true) := by
  have hr : FnC Try.prog 26 [.int .i64 2] (gp 2 [0, 1, 1, 0]) := ringOf_c 2 (by decide) (by decide)
  have hs : FnC Try.prog 8 [gp 2 [0, 1, 1, 0], .int .i64 2] (.tup [.agg [.int .i64 1, .int .i64 2, .int .i64 1], fl (0, 0)]) := by
    obtain ⟨_, hg⟩ := g_ring2
    have := sizes_ok (p := 2) hg (by decide) (by decide)
    have e1 : szB 2 [0, 1, 1, 0] 2 = 1 := by decide
    have e2 : szZ 2 [0, 1, 1, 0] 2 = 2 := by decide
    rw [e1, e2] at this
    exact this
  refine fnc_of tab_ok Try.func7 rfl (by kernel_rfl) (by rw [Try.ntmps7]; exact Nat.le_add_left 0 _) ?_; rw [Try.ntmps7]
  refine qm ?_
  refine hk_region fun K hK => runs_eval tab_ok ?_
  simp only [ev0, evA, evB, evP, fl, gp, tab, simprocAttr, reduceCtorEq, reduceIte]
  refine fin_run trivial (hK _ ?_) <;> clear hK <;> clear K
  refine qa (qm ?_)
  refine hk_region fun K hK => runs_eval tab_ok ?_
  simp only [ev0, evA, evB, evP, fl, gp, tab, simprocAttr, reduceCtorEq, reduceIte]
  refine fin_stop trivial (runs_call (hr) rfl rfl rfl (by simp only [dstOk, Nat.reduceLT]) (by repeat (first | exact trivial | constructor)) (runs_eval tab_ok ?_))
  simp only [ev0, evA, evB, evP, fl, gp, tab, simprocAttr, reduceCtorEq, reduceIte]
  refine fin_stop trivial (runs_call (hs) rfl rfl rfl (by simp only [dstOk, Nat.reduceLT]) (by repeat (first | exact trivial | constructor)) (runs_eval tab_ok ?_))
  simp only [ev0, evA, evB, evP, fl, gp, tab, simprocAttr, reduceCtorEq, reduceIte]
  refine fin_run ?_ (hK _ ?_) <;> clear hK <;> clear K
  · (first | exact trivial | omega | (simp only [In64] at *; omega) | (simp [In64] at *; omega) | (simp_all; done) | skip)
  refine qa (qm ?_)
  refine hk_region fun K hK => runs_eval tab_ok ?_
  simp only [ev0, evA, evB, evP, fl, gp, tab, simprocAttr, reduceCtorEq, reduceIte]
  refine fin_stop ?_ (runs_op (arrEq3_does tab_ok rfl rfl rfl rfl rfl rfl rfl rfl (by kernel_rfl)) rfl (by simp only [dstOk, Nat.reduceLT]) (runs_eval tab_ok ?_))
  · (first | exact trivial | omega | (simp only [In64] at *; omega) | (simp [In64] at *; omega) | (simp_all; done) | skip)
  simp only [ev0, evA, evB, evP, fl, gp, tab, simprocAttr, reduceCtorEq, reduceIte]
  refine fin_run ?_ (hK _ ?_) <;> clear hK <;> clear K
  · (first | exact trivial | omega | (simp only [In64] at *; omega) | (simp [In64] at *; omega) | (simp_all; done) | skip)
  refine qa (qk ?_)
  simp only [Try.results7, enA, ev0, evA, evB, evP, fl, gp, tab, simprocAttr, reduceCtorEq, reduceIte]
  all_goals ((first | exact rfl | exact ⟨rfl, rfl⟩ | exact ⟨rfl, rfl, rfl⟩ | exact ⟨trivial, rfl⟩ | exact ⟨Nat.le_refl _, rfl⟩ | trivial | (simp; done)))

end Go.Proofs.Ythdmioeddgednaa
