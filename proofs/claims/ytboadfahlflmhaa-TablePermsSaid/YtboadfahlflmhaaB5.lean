/-
  Texts of this proof, one behind the other: what each says stands at its head. Conditions: none.
-/
import Derived.Test.YtboadfahlflmhaaB4
import Derived.Shelf.SlSortCmp.Whole1
import Derived.Test.YtboadfahlflmhaaProg
import Derived.Shelf.SlLaysF

/-
  Walks: the program's words of groups: things, powers, orders. Conditions: none.
-/
set_option linter.all false
namespace Go.Proofs.Ytboadfahlflmhaa
open Go.Pv

theorem oneOf_c {n e : Nat} {m : List Int} (h : GT n m n e) : FnC Try.prog 71 [gp n m] (.int .i64 (e : Nat)) := by
  have G := h.2.2
  have T := h.2.1
  have hb := T.big
  have hel := G.el
  refine fnc_of tab_ok Try.func71 rfl (by kernel_rfl) (by rw [Try.ntmps71]; exact Nat.le_add_left 1 _) ?_; rw [Try.ntmps71]
  refine qm ?_
  refine hk_region fun K hK => runs_eval tab_ok ?_
  simp only [ev0, evA, evB, evP, fl, gp, tab, simprocAttr, reduceCtorEq, reduceIte]
  refine fin_run ?_ (hK _ ?_) <;> clear hK <;> clear K
  · (first | exact trivial | omega | (simp only [In64] at *; omega) | (simp [In64] at *; omega) | (simp_all; done) | skip)
  refine qa (qm (qm ?_))
  refine hk_region fun K hK => runs_eval tab_ok ?_
  simp only [ev0, evA, evB, evP, fl, gp, tab, simprocAttr, reduceCtorEq, reduceIte]
  refine fin_run ?_ (hK _ ?_) <;> clear hK <;> clear K
  · (first | exact trivial | omega | (simp only [In64] at *; omega) | (simp [In64] at *; omega) | (simp_all; done) | skip)
  refine qa (ql ?_)
  refine hk_loop (ι := Nat) (fun i => ⟨17, [(1, .ptr 0 0), (5, .p (.int .i64 n)), (6, .p (.int .i64 i))], [.own [.p (.int .i64 n), .p (.list (il m))]]⟩) (fun i => i ≤ e) (fun i => n - i) 0 (Nat.zero_le _) [0] (by simp only [leq, leA, ev0, evA, evB, evP, fl, gp, tab, simprocAttr, reduceCtorEq, reduceIte] <;> trivial) fun i hi => ?_
  refine qm ?_
  refine hk_region fun K hK => runs_eval tab_ok ?_
  simp only [ev0, evA, evB, evP, fl, gp, tab, simprocAttr, reduceCtorEq, reduceIte]
  refine fin_run trivial (hK _ ?_) <;> clear hK <;> clear K
  refine qa (qm ?_)
  refine hk_cond rfl (fun hC1 => ?_) (fun hC1 => ?_)
  · (try simp only [nhs] at hC1)
    refine qh (qa (qm (ql (qm ?_))))
    refine hk_region fun K hK => runs_eval tab_ok ?_
    simp only [ev0, evA, evB, evP, fl, gp, tab, simprocAttr, reduceCtorEq, reduceIte]
    refine fin_run trivial (hK _ ?_) <;> clear hK <;> clear K
    refine qa (qm ?_)
    refine hk_region fun K hK => runs_eval tab_ok ?_
    simp only [ev0, evA, evB, evP, fl, gp, tab, simprocAttr, reduceCtorEq, reduceIte]
    refine fin_stop trivial (runs_call (of_c T (show i < n by omega) (show i < n by omega)) rfl rfl rfl (by simp only [dstOk, Nat.reduceLT]) (by repeat (first | exact trivial | constructor)) (runs_eval tab_ok ?_))
    simp only [ev0, evA, evB, evP, fl, gp, tab, simprocAttr, reduceCtorEq, reduceIte]
    refine fin_run ?_ (hK _ ?_) <;> clear hK <;> clear K
    · (first | exact trivial | omega | (simp only [In64] at *; omega) | (simp [In64] at *; omega) | (simp_all; done) | skip)
    refine qa ?_
    refine hk_cond rfl (fun hC2 => ?_) (fun hC2 => ?_)
    · (try simp only [nhs] at hC2)
      have hie : i = e := (G.idem (by omega)).1 (by omega)
      refine qm ?_
      refine hk_region fun K hK => runs_eval tab_ok ?_
      simp only [ev0, evA, evB, evP, fl, gp, tab, simprocAttr, reduceCtorEq, reduceIte]
      refine fin_run trivial (hK _ ?_) <;> clear hK <;> clear K
      refine qa (qk (qe (qb (qb (qe (qb ?_))))))
      simp only [Try.results71, enA, ev0, evA, evB, evP, fl, gp, tab, simprocAttr, reduceCtorEq, reduceIte]
      all_goals (rw [hie])
    · (try simp only [nhs] at hC2)
      have hie : i ≠ e := fun h => hC2 (by rw [(G.idem (show i < n by omega)).2 h])
      refine qh (qd (qa ?_))
      refine hk_region fun K hK => runs_eval tab_ok ?_
      simp only [ev0, evA, evB, evP, fl, gp, tab, simprocAttr, reduceCtorEq, reduceIte]
      refine fin_run ?_ (hK _ ?_) <;> clear hK <;> clear K
      · (first | exact trivial | omega | (simp only [In64] at *; omega) | (simp [In64] at *; omega) | (simp_all; done) | skip)
      refine qa ?_
      refine ⟨i + 1, [0], by omega, by omega, ?_⟩
      simp only [leq, leA, ev0, evA, evB, evP, fl, gp, tab, simprocAttr, reduceCtorEq, reduceIte] <;> first | trivial | omega
  · (try simp only [nhs] at hC1)
    omega

/-! ### With their faults -/

theorem orderOf_c {n e : Nat} {m : List Int} (h : GT n m n e) {a : Nat} (ha : a < n) : FnC Try.prog 63 [gp n m, .int .i64 a] (.int .i64 (ord n (op m n) e a : Nat)) := by
  have G := h.2.2
  have T := h.2.1
  have hb := T.big
  obtain ⟨o1, o2, o3, o4⟩ := G.ord_spec ha
  refine fnc_of tab_ok Try.func63 rfl (by kernel_rfl) (by rw [Try.ntmps63]; exact Nat.le_add_left 2 _) ?_; rw [Try.ntmps63]
  refine qm ?_
  refine hk_region fun K hK => runs_eval tab_ok ?_
  simp only [ev0, evA, evB, evP, fl, gp, tab, simprocAttr, reduceCtorEq, reduceIte]
  refine fin_run ?_ (hK _ ?_) <;> clear hK <;> clear K
  · (first | exact trivial | omega | (simp only [In64] at *; omega) | (simp [In64] at *; omega) | (simp_all; done) | skip)
  refine qa (qm ?_)
  refine hk_region fun K hK => runs_eval tab_ok ?_
  simp only [ev0, evA, evB, evP, fl, gp, tab, simprocAttr, reduceCtorEq, reduceIte]
  refine fin_run trivial (hK _ ?_) <;> clear hK <;> clear K
  refine qa (qm (qm ?_))
  refine hk_region fun K hK => runs_eval tab_ok ?_
  simp only [ev0, evA, evB, evP, fl, gp, tab, simprocAttr, reduceCtorEq, reduceIte]
  refine fin_run trivial (hK _ ?_) <;> clear hK <;> clear K
  refine qa (ql ?_)
  refine hk_loop (ι := Nat) (fun k => ⟨19, [(1, .p (.int .i64 a)), (2, .ptr 0 0), (5, .p (.int .i64 k)), (6, .p (.int .i64 (pw (op m n) e a k : Nat)))], [.own [.p (.int .i64 n), .p (.list (il m))]]⟩) (fun k => 1 ≤ k ∧ k ≤ ord n (op m n) e a) (fun k => ord n (op m n) e a - k) 1 ⟨Nat.le_refl _, o1⟩ [0] (by rw [G.pw_one ha]; simp only [leq, leA, ev0, evA, evB, evP, fl, gp, tab, simprocAttr, reduceCtorEq, reduceIte] <;> trivial) fun k hk => ?_
  obtain ⟨hk1, hk2⟩ := hk
  refine qm (qm ?_)
  refine hk_region fun K hK => runs_eval tab_ok ?_
  simp only [ev0, evA, evB, evP, fl, gp, tab, simprocAttr, reduceCtorEq, reduceIte]
  refine fin_stop trivial (runs_call (oneOf_c h) rfl rfl rfl (by simp only [dstOk, Nat.reduceLT]) (by repeat (first | exact trivial | constructor)) (runs_eval tab_ok ?_))
  simp only [ev0, evA, evB, evP, fl, gp, tab, simprocAttr, reduceCtorEq, reduceIte]
  refine fin_run ?_ (hK _ ?_) <;> clear hK <;> clear K
  · (first | exact trivial | omega | (simp only [In64] at *; omega) | (simp [In64] at *; omega) | (simp_all; done) | skip)
  refine qa ?_
  refine hk_cond rfl (fun hC1 => ?_) (fun hC1 => ?_)
  · (try simp only [nhs] at hC1)
    have hne : k ≠ ord n (op m n) e a := fun h => hC1 (by rw [h, o3])
    refine qh (qa (qm (ql ?_)))
    refine hk_region fun K hK => runs_eval tab_ok ?_
    simp only [ev0, evA, evB, evP, fl, gp, tab, simprocAttr, reduceCtorEq, reduceIte]
    refine fin_run ?_ (hK _ ?_) <;> clear hK <;> clear K
    · (first | exact trivial | omega | (simp only [In64] at *; omega) | (simp [In64] at *; omega) | (simp_all; done) | skip)
    refine qd (qa ?_)
    refine hk_region fun K hK => runs_eval tab_ok ?_
    simp only [ev0, evA, evB, evP, fl, gp, tab, simprocAttr, reduceCtorEq, reduceIte]
    refine fin_stop trivial (runs_call (of_c T (G.pw_lt ha k) ha) rfl rfl rfl (by simp only [dstOk, Nat.reduceLT]) (by repeat (first | exact trivial | constructor)) (runs_eval tab_ok ?_))
    simp only [ev0, evA, evB, evP, fl, gp, tab, simprocAttr, reduceCtorEq, reduceIte]
    refine fin_run ?_ (hK _ ?_) <;> clear hK <;> clear K
    · (first | exact trivial | omega | (simp only [In64] at *; omega) | (simp [In64] at *; omega) | (simp_all; done) | skip)
    refine qa ?_
    refine ⟨k + 1, [0], ⟨by omega, by omega⟩, by omega, ?_⟩
    simp only [leq, leA, ev0, evA, evB, evP, fl, gp, tab, simprocAttr, reduceCtorEq, reduceIte] <;> first | trivial | omega
  · (try simp only [nhs] at hC1)
    have hek : k = ord n (op m n) e a := by
      rcases Nat.lt_or_ge k (ord n (op m n) e a) with hlt | hge
      · exact absurd (by omega) (o4 k hk1 hlt)
      · omega
    refine qj (qc (qc (qf (qa (qm ?_)))))
    refine hk_region fun K hK => runs_eval tab_ok ?_
    simp only [ev0, evA, evB, evP, fl, gp, tab, simprocAttr, reduceCtorEq, reduceIte]
    refine fin_run trivial (hK _ ?_) <;> clear hK <;> clear K
    refine qa (qk ?_)
    simp only [Try.results63, enA, ev0, evA, evB, evP, fl, gp, tab, simprocAttr, reduceCtorEq, reduceIte]
    all_goals (rw [hek])

/-- A row by a rule. -/
def rg (g : Nat → Int) (i : Nat) : List Int := (List.range i).map g
theorem rg_succ (g : Nat → Int) (i : Nat) : rg g (i + 1) = rg g i ++ [g i] := by simp [rg, List.range_succ]
theorem rg_len (g : Nat → Int) (i : Nat) : (rg g i).length = i := by simp [rg]
theorem rg_get (g : Nat → Int) {n i : Nat} (h : i < n) : (rg g n).getD i 0 = g i := by
  simp [rg, List.getD, List.getElem?_range h]

def ordl (m : List Int) (n e : Nat) : List Int := rg (fun a => ((ord n (op m n) e a : Nat) : Int)) n

theorem orders_ok {n e : Nat} {m : List Int} (h : GT n m n e) : FnC Try.prog 35 [gp n m] (.tup [.list (il (ordl m n e)), fl (0, 0)]) := by
  have hm := h.2.1.len
  have hsq := sq_le h.2.1.big
  have hb := h.2.1.big
  have hlen := rg_len (fun a => ((ord n (op m n) e a : Nat) : Int))
  have hsuc := rg_succ (fun a => ((ord n (op m n) e a : Nat) : Int))
  refine fnc_of tab_ok Try.func35 rfl (by kernel_rfl) (by rw [Try.ntmps35]; exact Nat.le_add_left 1 _) ?_; rw [Try.ntmps35]
  refine qm ?_
  refine hk_region fun K hK => runs_eval tab_ok ?_
  simp only [ev0, evA, evB, evP, fl, gp, tab, simprocAttr, reduceCtorEq, reduceIte]
  refine fin_run ?_ (hK _ ?_) <;> clear hK <;> clear K
  · (first | exact trivial | omega | (simp only [In64] at *; omega) | (simp [In64] at *; omega) | (simp_all; done) | skip)
  refine qa (qm (qm ?_))
  refine hk_region fun K hK => runs_eval tab_ok ?_
  simp only [ev0, evA, evB, evP, fl, gp, tab, simprocAttr, reduceCtorEq, reduceIte]
  refine fin_stop trivial (runs_call (check_c n m (by omega)) rfl rfl rfl (by simp only [dstOk, Nat.reduceLT]) (by repeat (first | exact trivial | constructor)) (runs_eval tab_ok ?_))
  simp only [ev0, evA, evB, evP, fl, gp, tab, simprocAttr, reduceCtorEq, reduceIte, gf_of h]
  refine fin_run ?_ (hK _ ?_) <;> clear hK <;> clear K
  · (first | exact trivial | omega | (simp only [In64] at *; omega) | (simp [In64] at *; omega) | (simp_all; done) | skip)
  refine qa (qm ?_)
  refine hk_region fun K hK => runs_eval tab_ok ?_
  simp only [ev0, evA, evB, evP, fl, gp, tab, simprocAttr, reduceCtorEq, reduceIte]
  refine fin_run ?_ (hK _ ?_) <;> clear hK <;> clear K
  · (first | exact trivial | omega | (simp only [In64] at *; omega) | (simp [In64] at *; omega) | (simp_all; done) | skip)
  refine qa ?_
  refine hk_cond rfl (fun hC1 => ?_) (fun hC1 => ?_)
  · cases hC1
  · (try simp only [nhs] at hC1)
    refine qh (qa (qm ?_))
    refine hk_region fun K hK => runs_eval tab_ok ?_
    simp only [ev0, evA, evB, evP, fl, gp, tab, simprocAttr, reduceCtorEq, reduceIte]
    refine fin_run trivial (hK _ ?_) <;> clear hK <;> clear K
    refine qa (qm (qm ?_))
    refine hk_own0 5 rfl ?_
    refine hk_region fun K hK => runs_eval tab_ok ?_
    simp only [ev0, evA, evB, evP, fl, gp, tab, simprocAttr, reduceCtorEq, reduceIte]
    refine fin_run ?_ (hK _ ?_) <;> clear hK <;> clear K
    · (first | exact trivial | omega | (simp only [In64] at *; omega) | (simp [In64] at *; omega) | (simp_all; done) | skip)
    refine qa (ql ?_)
    refine hk_loop (ι := Nat) (fun i => ⟨27, [(1, .ptr 0 0), (3, .ptr 1 0), (5, .sl 2 0 (rg (fun a => ((ord n (op m n) e a : Nat) : Int)) i).length), (14, .p (.int .i64 n)), (15, .p (.int .i64 i))], [.own [.p (.int .i64 n), .p (.list (il m))], .own [.p (.int .i64 0), .p (.int .i64 0)], .own (ol (rg (fun a => ((ord n (op m n) e a : Nat) : Int)) i))]⟩) (fun i => i ≤ n) (fun i => n - i) 0 (Nat.zero_le _) [0, 1, 3] (by simp only [leq, leA, ev0, evA, evB, evP, fl, gp, tab, simprocAttr, reduceCtorEq, reduceIte] <;> simp [rg, ol_nil]) fun i hi => ?_
    have hli := hlen i
    refine qm ?_
    refine hk_region fun K hK => runs_eval tab_ok ?_
    simp only [ev0, evA, evB, evP, fl, gp, tab, simprocAttr, reduceCtorEq, reduceIte]
    refine fin_run trivial (hK _ ?_) <;> clear hK <;> clear K
    refine qa (qm ?_)
    refine hk_cond rfl (fun hC2 => ?_) (fun hC2 => ?_)
    · (try simp only [nhs] at hC2)
      have hlt : i < n := by omega
      refine qh (qa (qm (ql (qm ?_))))
      refine hk_region fun K hK => runs_eval tab_ok ?_
      simp only [ev0, evA, evB, evP, fl, gp, tab, simprocAttr, reduceCtorEq, reduceIte]
      refine fin_run trivial (hK _ ?_) <;> clear hK <;> clear K
      refine qa ?_
      refine hk_region fun K hK => runs_eval tab_ok ?_
      simp only [ev0, evA, evB, evP, fl, gp, tab, simprocAttr, reduceCtorEq, reduceIte]
      refine fin_stop trivial (runs_call (orderOf_c h hlt) rfl rfl rfl (by simp only [dstOk, Nat.reduceLT]) (by repeat (first | exact trivial | constructor)) (runs_eval tab_ok ?_))
      simp only [ev0, evA, evB, evP, fl, gp, tab, simprocAttr, reduceCtorEq, reduceIte]
      refine fin_run ?_ (hK _ ?_) <;> clear hK <;> clear K
      · (first | exact trivial | omega | (simp only [In64] at *; omega) | (simp [In64] at *; omega) | (simp_all; done) | skip)
      refine qd (qa ?_)
      refine hk_region fun K hK => runs_eval tab_ok ?_
      simp only [ev0, evA, evB, evP, fl, gp, tab, simprocAttr, reduceCtorEq, reduceIte]
      refine fin_run ?_ (hK _ ?_) <;> clear hK <;> clear K
      · (first | exact trivial | omega | (simp only [In64] at *; omega) | (simp [In64] at *; omega) | (simp_all; done) | skip)
      refine qa ?_
      refine ⟨i + 1, [0, 1, 3], by omega, by omega, ?_⟩
      rw [hsuc]
      simp only [leq, leA, ev0, evA, evB, evP, fl, gp, tab, simprocAttr, reduceCtorEq, reduceIte] <;> first | trivial | omega
    · (try simp only [nhs] at hC2)
      have hin : i = n := by omega
      subst hin
      refine hk_seal 5 2 rfl rfl ?_
      refine qj (qc (qc (qf (qa (qm ?_)))))
      refine hk_region fun K hK => runs_eval tab_ok ?_
      simp only [ev0, evA, evB, evP, fl, gp, tab, simprocAttr, reduceCtorEq, reduceIte]
      refine fin_run ?_ (hK _ ?_) <;> clear hK <;> clear K
      · (first | exact trivial | omega | (simp only [In64] at *; omega) | (simp [In64] at *; omega) | (simp_all; done) | skip)
      refine qa (qk ?_)
      simp only [Try.results35, enA, ev0, evA, evB, evP, fl, gp, tab, simprocAttr, reduceCtorEq, reduceIte]
      all_goals (rfl)

end Go.Proofs.Ytboadfahlflmhaa

/-
  Walks: groups that are made of a product. Conditions: none.
-/
set_option linter.all false
namespace Go.Proofs.Ytboadfahlflmhaa
open Go.Pv

/-- A table, by a rule. -/
def tbr (g : Nat → Nat → Int) (n : Nat) : Nat → List Int := rg fun i => g (i / n) (i % n)
def tbl (g : Nat → Nat → Int) (n : Nat) : List Int := tbr g n (n * n)

theorem tbr_succ (g : Nat → Nat → Int) {n a b : Nat} (hb : b < n) : tbr g n (a * n + (b + 1)) = tbr g n (a * n + b) ++ [g a b] := by
  unfold tbr
  rw [← Nat.add_assoc, rg_succ]
  have h1 : (a * n + b) / n = a := by
    rw [Nat.mul_comm, Nat.mul_add_div (by omega), Nat.div_eq_of_lt hb]; omega
  have h2 : (a * n + b) % n = b := by
    rw [Nat.mul_comm, Nat.mul_add_mod, Nat.mod_eq_of_lt hb]
  simp only [h1, h2]
theorem tbr_len (g : Nat → Nat → Int) (n k : Nat) : (tbr g n k).length = k := rg_len _ k
theorem tbl_len (g : Nat → Nat → Int) (n : Nat) : (tbl g n).length = n * n := rg_len _ _
theorem tbl_get (g : Nat → Nat → Int) {n a b : Nat} (ha : a < n) (hb : b < n) : (tbl g n).getD (a * n + b) 0 = g a b := by
  unfold tbl tbr
  rw [rg_get _ (at_lt ha hb)]
  have h1 : (a * n + b) / n = a := by
    rw [Nat.mul_comm, Nat.mul_add_div (by omega), Nat.div_eq_of_lt hb]; omega
  have h2 : (a * n + b) % n = b := by
    rw [Nat.mul_comm, Nat.mul_add_mod, Nat.mod_eq_of_lt hb]
  rw [h1, h2]

theorem made_c (n : Nat) (hn : n ≤ 60) (F : FuncId) (caps : List PV) (g : Nat → Nat → Int) (hF : ∀ a b, a < n → b < n → FnC Try.prog F (.int .i64 a :: .int .i64 b :: caps) (.int .i64 (g a b))) :
    FnC Try.prog 46 [.int .i64 n, .fn F caps] (gp n (tbl g n)) := by
  have hsq := sq_le hn
  have hlen := tbr_len g n
  refine fnc_of tab_ok Try.func46 rfl (by kernel_rfl) (by rw [Try.ntmps46]; exact Nat.le_add_left 2 _) ?_; rw [Try.ntmps46]
  refine qm ?_
  refine hk_region fun K hK => runs_eval tab_ok ?_
  simp only [ev0, evA, evB, evP, fl, gp, tab, simprocAttr, reduceCtorEq, reduceIte]
  refine fin_run ?_ (hK _ ?_) <;> clear hK <;> clear K
  · (first | exact trivial | omega | (simp only [In64] at *; omega) | (simp [In64] at *; omega) | (simp_all; done) | skip)
  refine qa (qm ?_)
  refine hk_region fun K hK => runs_eval tab_ok ?_
  simp only [ev0, evA, evB, evP, fl, gp, tab, simprocAttr, reduceCtorEq, reduceIte]
  refine fin_run ?_ (hK _ ?_) <;> clear hK <;> clear K
  · (first | exact trivial | omega | (simp only [In64] at *; omega) | (simp [In64] at *; omega) | (simp_all; done) | skip)
  refine qa (qm (qm ?_))
  refine hk_own0c 1 1 rfl rfl ?_
  simp only [hset, List.cons_append, List.nil_append, List.set, List.length_cons, List.length_nil]
  refine hk_region fun K hK => runs_eval tab_ok ?_
  simp only [ev0, evA, evB, evP, fl, gp, tab, simprocAttr, reduceCtorEq, reduceIte]
  refine fin_run trivial (hK _ ?_) <;> clear hK <;> clear K
  refine qa (ql ?_)
  refine hk_loop (ι := Nat) (fun a => ⟨30, [(0, .p (.int .i64 n)), (1, .p (.fn F caps)), (4, .ptr 0 0), (5, .ptr 1 0), (10, .p (.int .i64 n)), (11, .p (.int .i64 a))], [.own [.p (.int .i64 0), .p .nil], .own [.p (.int .i64 n), .sl 2 0 (tbr g n (a * n)).length], .own (ol (tbr g n (a * n)))]⟩) (fun a => a ≤ n) (fun a => n - a) 0 (Nat.zero_le _) [0, 1, 2] (by rw [Nat.zero_mul]; simp only [leq, leA, ev0, evA, evB, evP, fl, gp, tab, simprocAttr, reduceCtorEq, reduceIte] <;> simp [tbr, rg, ol_nil]) fun a ha => ?_
  refine qm ?_
  refine hk_region fun K hK => runs_eval tab_ok ?_
  simp only [ev0, evA, evB, evP, fl, gp, tab, simprocAttr, reduceCtorEq, reduceIte]
  refine fin_run trivial (hK _ ?_) <;> clear hK <;> clear K
  refine qa (qm ?_)
  refine hk_cond rfl (fun hC1 => ?_) (fun hC1 => ?_)
  · (try simp only [nhs] at hC1)
    have hal : a < n := by omega
    refine qh (qa (qm (ql (qm ?_))))
    refine hk_region fun K hK => runs_eval tab_ok ?_
    simp only [ev0, evA, evB, evP, fl, gp, tab, simprocAttr, reduceCtorEq, reduceIte]
    refine fin_run trivial (hK _ ?_) <;> clear hK <;> clear K
    refine qa (qm ?_)
    refine hk_region fun K hK => runs_eval tab_ok ?_
    simp only [ev0, evA, evB, evP, fl, gp, tab, simprocAttr, reduceCtorEq, reduceIte]
    refine fin_run trivial (hK _ ?_) <;> clear hK <;> clear K
    refine qa (ql ?_)
    refine hk_loop (ι := Nat) (fun b => ⟨30, [(0, .p (.int .i64 n)), (1, .p (.fn F caps)), (4, .ptr 0 0), (5, .ptr 1 0), (6, .p (.int .i64 a)), (10, .p (.int .i64 n)), (11, .p (.int .i64 a)), (14, .p (.int .i64 n)), (15, .p (.int .i64 b))], [.own [.p (.int .i64 0), .p .nil], .own [.p (.int .i64 n), .sl 2 0 (tbr g n (a * n + b)).length], .own (ol (tbr g n (a * n + b)))]⟩) (fun b => b ≤ n) (fun b => n - b) 0 (Nat.zero_le _) [0, 1, 2] (by rw [Nat.add_zero]; simp only [leq, leA, ev0, evA, evB, evP, fl, gp, tab, simprocAttr, reduceCtorEq, reduceIte] <;> trivial) fun b hb => ?_
    refine qm ?_
    refine hk_region fun K hK => runs_eval tab_ok ?_
    simp only [ev0, evA, evB, evP, fl, gp, tab, simprocAttr, reduceCtorEq, reduceIte]
    refine fin_run trivial (hK _ ?_) <;> clear hK <;> clear K
    refine qa (qm ?_)
    refine hk_cond rfl (fun hC2 => ?_) (fun hC2 => ?_)
    · (try simp only [nhs] at hC2)
      have hbl : b < n := by omega
      have hat := at_lt hal hbl
      have hl := hlen (a * n + b)
      refine qh (qa (qm (ql (qm ?_))))
      refine hk_region fun K hK => runs_eval tab_ok ?_
      simp only [ev0, evA, evB, evP, fl, gp, tab, simprocAttr, reduceCtorEq, reduceIte]
      refine fin_run trivial (hK _ ?_) <;> clear hK <;> clear K
      refine qa ?_
      refine hk_draw mixed (by kernel_rfl) fun K hK => runs_eval tab_ok ?_
      simp only [ev0, evA, evB, evP, fl, gp, tab, simprocAttr, reduceCtorEq, reduceIte]
      refine fin_stop trivial (runs_call (hF a b hal hbl) rfl rfl rfl (by simp only [dstOk, Nat.reduceLT]) (by repeat (first | exact trivial | constructor)) (runs_eval tab_ok ?_))
      simp only [ev0, evA, evB, evP, fl, gp, tab, simprocAttr, reduceCtorEq, reduceIte]
      refine fin_run ?_ (hK _ ?_) <;> clear hK <;> clear K
      · (first | exact trivial | omega | (simp only [In64] at *; omega) | (simp [In64] at *; omega) | (simp_all; done) | skip)
      refine qd (qa ?_)
      refine hk_region fun K hK => runs_eval tab_ok ?_
      simp only [ev0, evA, evB, evP, fl, gp, tab, simprocAttr, reduceCtorEq, reduceIte]
      refine fin_run ?_ (hK _ ?_) <;> clear hK <;> clear K
      · (first | exact trivial | omega | (simp only [In64] at *; omega) | (simp [In64] at *; omega) | (simp_all; done) | skip)
      refine qa ?_
      refine ⟨b + 1, [0, 1, 3], by omega, by omega, ?_⟩
      rw [tbr_succ g hbl]
      simp only [leq, leA, ev0, evA, evB, evP, fl, gp, tab, simprocAttr, reduceCtorEq, reduceIte] <;> first | trivial | omega
    · (try simp only [nhs] at hC2)
      have hbn : b = n := by omega
      refine qj (qc (qc (qf (qd (qa ?_)))))
      refine hk_region fun K hK => runs_eval tab_ok ?_
      simp only [ev0, evA, evB, evP, fl, gp, tab, simprocAttr, reduceCtorEq, reduceIte]
      refine fin_run ?_ (hK _ ?_) <;> clear hK <;> clear K
      · (first | exact trivial | omega | (simp only [In64] at *; omega) | (simp [In64] at *; omega) | (simp_all; done) | skip)
      refine qa ?_
      refine ⟨a + 1, [0, 1, 2], by omega, by omega, ?_⟩
      rw [hbn, show (a + 1) * n = a * n + n by rw [Nat.add_mul, Nat.one_mul]]
      simp only [leq, leA, ev0, evA, evB, evP, fl, gp, tab, simprocAttr, reduceCtorEq, reduceIte] <;> first | trivial | omega
  · (try simp only [nhs] at hC1)
    have han : a = n := by omega
    refine qj (qc (qc (qf (qa (qm ?_)))))
    refine hk_region fun K hK => runs_eval tab_ok ?_
    simp only [ev0, evA, evB, evP, fl, gp, tab, simprocAttr, reduceCtorEq, reduceIte]
    refine fin_run ?_ (hK _ ?_) <;> clear hK <;> clear K
    · (first | exact trivial | omega | (simp only [In64] at *; omega) | (simp [In64] at *; omega) | (simp_all; done) | skip)
    refine qa (qk ?_)
    simp only [Try.results46, enA, ev0, evA, evB, evP, fl, gp, tab, simprocAttr, reduceCtorEq, reduceIte]
    all_goals (simp [han, tbl])

def dic (n a b : Nat) : Nat := (a % (2 * n) + (if a / (2 * n) + b / (2 * n) = 2 then n else 0) + (if a / (2 * n) = 1 then 2 * n - b % (2 * n) else b % (2 * n))) % (2 * n) + (a / (2 * n) + b / (2 * n)) % 2 * (2 * n)

theorem tm_lit (a : Nat) : Int.tmod (a : Int) 2 = ((a % 2 : Nat) : Int) := rfl

theorem dic1_c (n a b : Nat) (hn : 1 ≤ n) (h : n ≤ 60) (ha : a < 2 * (2 * n)) (hb : b < 2 * (2 * n)) : FnC Try.prog 62 [.int .i64 a, .int .i64 b, .ptr [.int .i64 (2 * n : Nat)], .ptr [.int .i64 n]] (.int .i64 (dic n a b : Nat)) := by
  unfold dic
  have hm1 : 1 ≤ 2 * n := by omega
  have hm2 : 2 * n ≤ 120 := by omega
  generalize 2 * n = q at *
  have h1 := Nat.mod_lt a (show 0 < q by omega)
  have h2 := Nat.mod_lt b (show 0 < q by omega)
  have h3 : a / q < 2 := Nat.div_lt_of_lt_mul (by rw [Nat.mul_comm]; exact ha)
  have h4 : b / q < 2 := Nat.div_lt_of_lt_mul (by rw [Nat.mul_comm]; exact hb)
  have hs : (q : Int) - ((b % q : Nat) : Int) = ((q - b % q : Nat) : Int) := by omega
  have hq : (((a / q + b / q) % 2 : Nat) : Int) * (q : Int) = (((a / q + b / q) % 2 * q : Nat) : Int) := (Int.natCast_mul _ _).symm
  have hq2 : (a / q + b / q) % 2 * q ≤ 1 * q := Nat.mul_le_mul_right _ (by omega)
  refine fnc_of tab_ok Try.func62 rfl (by kernel_rfl) (by rw [Try.ntmps62]; exact Nat.le_add_left 4 _) ?_; rw [Try.ntmps62]
  refine qm ?_
  refine hk_region fun K hK => runs_eval tab_ok ?_
  simp only [ev0, evA, evB, evP, fl, gp, tab, simprocAttr, reduceCtorEq, reduceIte]
  refine fin_run trivial (hK _ ?_) <;> clear hK <;> clear K
  refine qa (qm ?_)
  refine hk_draw mixed (by kernel_rfl) fun K hK => runs_eval tab_ok ?_
  simp only [ev0, evA, evB, evP, fl, gp, tab, simprocAttr, reduceCtorEq, reduceIte, tm_nat, td_nat]
  refine fin_run ?_ (hK _ ?_) <;> clear hK <;> clear K
  · generalize a / q = s at *; generalize b / q = t at *; simp only [In64]; omega
  refine qa (qm (qm ?_))
  refine hk_region fun K hK => runs_eval tab_ok ?_
  simp only [ev0, evA, evB, evP, fl, gp, tab, simprocAttr, reduceCtorEq, reduceIte]
  refine fin_run trivial (hK _ ?_) <;> clear hK <;> clear K
  refine qa ?_
  refine hk_cond rfl (fun hC1 => ?_) (fun hC1 => ?_)
  · (try simp only [nhs] at hC1)
    have e1 : a / q = 1 := by omega
    refine hk_region fun K hK => runs_eval tab_ok ?_
    simp only [ev0, evA, evB, evP, fl, gp, tab, simprocAttr, reduceCtorEq, reduceIte, hs]
    refine fin_run ?_ (hK _ ?_) <;> clear hK <;> clear K
    · (first | exact trivial | omega | (simp only [In64] at *; omega) | (simp [In64] at *; omega) | (simp_all; done) | skip)
    refine qa (qm (qm ?_))
    refine hk_region fun K hK => runs_eval tab_ok ?_
    simp only [ev0, evA, evB, evP, fl, gp, tab, simprocAttr, reduceCtorEq, reduceIte, ← Int.natCast_add]
    refine fin_run ?_ (hK _ ?_) <;> clear hK <;> clear K
    · generalize a / q = s at *; generalize b / q = t at *; simp only [In64]; omega
    refine qa ?_
    refine hk_cond rfl (fun hC2 => ?_) (fun hC2 => ?_)
    · (try simp only [nhs] at hC2)
      have e2 : a / q + b / q = 2 := by omega
      refine hk_region fun K hK => runs_eval tab_ok ?_
      simp only [ev0, evA, evB, evP, fl, gp, tab, simprocAttr, reduceCtorEq, reduceIte, ← Int.natCast_add]
      refine fin_run ?_ (hK _ ?_) <;> clear hK <;> clear K
      · (first | exact trivial | omega | (simp only [In64] at *; omega) | (simp [In64] at *; omega) | (simp_all; done) | skip)
      refine qa (qm ?_)
      refine hk_draw mixed (by kernel_rfl) fun K hK => runs_eval tab_ok ?_
      simp only [ev0, evA, evB, evP, fl, gp, tab, simprocAttr, reduceCtorEq, reduceIte, ← Int.natCast_add, tm_nat, tm_lit, hq]
      refine fin_run ?_ (hK _ ?_) <;> clear hK <;> clear K
      · simp only [In64]; have := Nat.mod_lt (a % q + (q - b % q)) (show 0 < q by omega); have := Nat.mod_lt (a % q + b % q) (show 0 < q by omega); have := Nat.mod_lt (a % q + n + (q - b % q)) (show 0 < q by omega); have := Nat.mod_lt (a % q + n + b % q) (show 0 < q by omega); generalize a / q = s at *; generalize b / q = t at *; omega
      refine qa (qk ?_)
      simp only [Try.results62, enA, ev0, evA, evB, evP, fl, gp, tab, simprocAttr, reduceCtorEq, reduceIte]
      all_goals (rw [if_pos e1, if_pos e2])
    · (try simp only [nhs] at hC2)
      have e2 : ¬ a / q + b / q = 2 := by omega
      refine qh (qa (qm ?_))
      refine hk_draw mixed (by kernel_rfl) fun K hK => runs_eval tab_ok ?_
      simp only [ev0, evA, evB, evP, fl, gp, tab, simprocAttr, reduceCtorEq, reduceIte, ← Int.natCast_add, tm_nat, tm_lit, hq]
      refine fin_run ?_ (hK _ ?_) <;> clear hK <;> clear K
      · simp only [In64]; have := Nat.mod_lt (a % q + (q - b % q)) (show 0 < q by omega); have := Nat.mod_lt (a % q + b % q) (show 0 < q by omega); have := Nat.mod_lt (a % q + n + (q - b % q)) (show 0 < q by omega); have := Nat.mod_lt (a % q + n + b % q) (show 0 < q by omega); generalize a / q = s at *; generalize b / q = t at *; omega
      refine qa (qk ?_)
      simp only [Try.results62, enA, ev0, evA, evB, evP, fl, gp, tab, simprocAttr, reduceCtorEq, reduceIte]
      all_goals (rw [if_pos e1, if_neg e2, Nat.add_zero])
  · (try simp only [nhs] at hC1)
    have e1 : ¬ a / q = 1 := by omega
    refine qh (qa (qm (qm ?_)))
    refine hk_region fun K hK => runs_eval tab_ok ?_
    simp only [ev0, evA, evB, evP, fl, gp, tab, simprocAttr, reduceCtorEq, reduceIte, ← Int.natCast_add]
    refine fin_run ?_ (hK _ ?_) <;> clear hK <;> clear K
    · generalize a / q = s at *; generalize b / q = t at *; simp only [In64]; omega
    refine qa ?_
    refine hk_cond rfl (fun hC2 => ?_) (fun hC2 => ?_)
    · (try simp only [nhs] at hC2)
      have e2 : a / q + b / q = 2 := by omega
      refine hk_region fun K hK => runs_eval tab_ok ?_
      simp only [ev0, evA, evB, evP, fl, gp, tab, simprocAttr, reduceCtorEq, reduceIte, ← Int.natCast_add]
      refine fin_run ?_ (hK _ ?_) <;> clear hK <;> clear K
      · (first | exact trivial | omega | (simp only [In64] at *; omega) | (simp [In64] at *; omega) | (simp_all; done) | skip)
      refine qa (qm ?_)
      refine hk_draw mixed (by kernel_rfl) fun K hK => runs_eval tab_ok ?_
      simp only [ev0, evA, evB, evP, fl, gp, tab, simprocAttr, reduceCtorEq, reduceIte, ← Int.natCast_add, tm_nat, tm_lit, hq]
      refine fin_run ?_ (hK _ ?_) <;> clear hK <;> clear K
      · simp only [In64]; have := Nat.mod_lt (a % q + (q - b % q)) (show 0 < q by omega); have := Nat.mod_lt (a % q + b % q) (show 0 < q by omega); have := Nat.mod_lt (a % q + n + (q - b % q)) (show 0 < q by omega); have := Nat.mod_lt (a % q + n + b % q) (show 0 < q by omega); generalize a / q = s at *; generalize b / q = t at *; omega
      refine qa (qk ?_)
      simp only [Try.results62, enA, ev0, evA, evB, evP, fl, gp, tab, simprocAttr, reduceCtorEq, reduceIte]
      all_goals (rw [if_neg e1, if_pos e2])
    · (try simp only [nhs] at hC2)
      have e2 : ¬ a / q + b / q = 2 := by omega
      refine qh (qa (qm ?_))
      refine hk_draw mixed (by kernel_rfl) fun K hK => runs_eval tab_ok ?_
      simp only [ev0, evA, evB, evP, fl, gp, tab, simprocAttr, reduceCtorEq, reduceIte, ← Int.natCast_add, tm_nat, tm_lit, hq]
      refine fin_run ?_ (hK _ ?_) <;> clear hK <;> clear K
      · simp only [In64]; have := Nat.mod_lt (a % q + (q - b % q)) (show 0 < q by omega); have := Nat.mod_lt (a % q + b % q) (show 0 < q by omega); have := Nat.mod_lt (a % q + n + (q - b % q)) (show 0 < q by omega); have := Nat.mod_lt (a % q + n + b % q) (show 0 < q by omega); generalize a / q = s at *; generalize b / q = t at *; omega
      refine qa (qk ?_)
      simp only [Try.results62, enA, ev0, evA, evB, evP, fl, gp, tab, simprocAttr, reduceCtorEq, reduceIte]
      all_goals (rw [if_neg e1, if_neg e2, Nat.add_zero])

end Go.Proofs.Ytboadfahlflmhaa

/-
  Walks: dihedral groups, dicyclic ones, products; the example of the document. Conditions: none.
-/
set_option linter.all false
namespace Go.Proofs.Ytboadfahlflmhaa
open Go.Pv

theorem t2n (n : Nat) : (2 : Int) * (n : Int) = ((2 * n : Nat) : Int) := by omega

theorem dicyclic_c (n : Nat) (hn : 1 ≤ n) (h : n ≤ 15) : FnC Try.prog 34 [.int .i64 n] (.tup [gp (2 * (2 * n) : Nat) (tbl (fun a b => (dic n a b : Nat)) (2 * (2 * n))), fl (0, 0)]) := by
  refine fnc_of tab_ok Try.func34 rfl (by kernel_rfl) (by rw [Try.ntmps34]; exact Nat.le_add_left 1 _) ?_; rw [Try.ntmps34]
  refine qm ?_
  refine hk_region fun K hK => runs_eval tab_ok ?_
  simp only [ev0, evA, evB, evP, fl, gp, tab, simprocAttr, reduceCtorEq, reduceIte]
  refine fin_run ?_ (hK _ ?_) <;> clear hK <;> clear K
  · (first | exact trivial | omega | (simp only [In64] at *; omega) | (simp [In64] at *; omega) | (simp_all; done) | skip)
  refine qa (qm (qm ?_))
  by_cases g1a : (n : Int) < 1
  · refine hk_region fun K hK => runs_eval tab_ok ?_
    simp only [ev0, evA, evB, evP, fl, gp, tab, simprocAttr, reduceCtorEq, reduceIte, decide_eq_true g1a]
    refine fin_run ?_ (hK _ ?_) <;> clear hK <;> clear K
    · (first | exact trivial | omega | (simp only [In64] at *; omega) | (simp [In64] at *; omega) | (simp_all; done) | skip)
    refine qa ?_
    refine hk_cond rfl (fun hC1 => ?_) (fun hC1 => ?_)
    · omega
    · cases hC1
  · refine hk_region fun K hK => runs_eval tab_ok ?_
    simp only [ev0, evA, evB, evP, fl, gp, tab, simprocAttr, reduceCtorEq, reduceIte, decide_eq_false g1a]
    refine fin_run ?_ (hK _ ?_) <;> clear hK <;> clear K
    · (first | exact trivial | omega | (simp only [In64] at *; omega) | (simp [In64] at *; omega) | (simp_all; done) | skip)
    refine qa ?_
    refine hk_cond rfl (fun hC1 => ?_) (fun hC1 => ?_)
    · (try simp only [nhs] at hC1)
      omega
    · (try simp only [nhs] at hC1)
      refine qh (qa (qm ?_))
      refine hk_region fun K hK => runs_eval tab_ok ?_
      simp only [ev0, evA, evB, evP, fl, gp, tab, simprocAttr, reduceCtorEq, reduceIte, t2n]
      refine fin_run ?_ (hK _ ?_) <;> clear hK <;> clear K
      · (first | exact trivial | omega | (simp only [In64] at *; omega) | (simp [In64] at *; omega) | (simp_all; done) | skip)
      refine qa (qm ?_)
      refine hk_freeze 0 rfl rfl ?_
      refine hk_freeze 3 rfl rfl ?_
      simp only [hset]
      refine hk_region fun K hK => runs_eval tab_ok ?_
      simp only [ev0, evA, evB, evP, fl, gp, tab, simprocAttr, reduceCtorEq, reduceIte, t2n]
      refine fin_stop ?_ (runs_call (made_c (2 * (2 * n)) (by omega) _ _ (fun a b => (dic n a b : Nat)) (fun a b ha hb => dic1_c n a b hn (by omega) ha hb)) rfl rfl rfl (by simp only [dstOk, Nat.reduceLT]) (by repeat (first | exact trivial | constructor)) (runs_eval tab_ok ?_))
      · (first | exact trivial | omega | (simp only [In64] at *; omega) | (simp [In64] at *; omega) | (simp_all; done) | skip)
      simp only [ev0, evA, evB, evP, fl, gp, tab, simprocAttr, reduceCtorEq, reduceIte, t2n]
      refine fin_run ?_ (hK _ ?_) <;> clear hK <;> clear K
      · (first | exact trivial | omega | (simp only [In64] at *; omega) | (simp [In64] at *; omega) | (simp_all; done) | skip)
      refine qa (qk ?_)
      simp only [Try.results34, enA, ev0, evA, evB, evP, fl, gp, tab, simprocAttr, reduceCtorEq, reduceIte]
      all_goals (omega)

/-! ### The example of the document -/

theorem dic2_GT : GT (2 * (2 * 2) : Nat) (tbl (fun a b => (dic 2 a b : Nat)) (2 * (2 * 2))) 8 0 := by
  have hM : tbl (fun a b => (dic 2 a b : Nat)) (2 * (2 * 2)) = [0, 1, 2, 3, 4, 5, 6, 7, 1, 2, 3, 0, 5, 6, 7, 4, 2, 3, 0, 1, 6, 7, 4, 5, 3, 0, 1, 2, 7, 4, 5, 6, 4, 7, 6, 5, 2, 1, 0, 3, 5, 4, 7, 6, 3, 2, 1, 0, 6, 5, 4, 7, 0, 3, 2, 1, 7, 6, 5, 4, 1, 0, 3, 2] := by decide +kernel
  rw [hM]
  generalize hm : [0, 1, 2, 3, 4, 5, 6, 7, 1, 2, 3, 0, 5, 6, 7, 4, 2, 3, 0, 1, 6, 7, 4, 5, 3, 0, 1, 2, 7, 4, 5, 6, 4, 7, 6, 5, 2, 1, 0, 3, 5, 4, 7, 6, 3, 2, 1, 0, 6, 5, 4, 7, 0, 3, 2, 1, 7, 6, 5, 4, 1, 0, 3, (2 : Int)] = m
  have h1 : ∀ i, i < 8 * 8 → 0 ≤ m.getD i 0 ∧ m.getD i 0 < 8 := by subst hm; decide +kernel
  have h2 : ∀ a, a < 8 → ∀ b, b < 8 → op m 8 a b < 8 := by subst hm; decide +kernel
  have h3 : ∀ a, a < 8 → op m 8 0 a = a ∧ op m 8 a 0 = a := by subst hm; decide +kernel
  have h4 : ∀ a, a < 8 → ∀ b, b < 8 → ∀ c, c < 8 → op m 8 (op m 8 a b) c = op m 8 a (op m 8 b c) := by subst hm; decide +kernel
  have h5 : ∀ a, a < 8 → ∃ b, b < 8 ∧ op m 8 a b = 0 ∧ op m 8 b a = 0 := by subst hm; decide +kernel
  refine ⟨rfl, ⟨by omega, by omega, by subst hm; rfl, h1⟩, ⟨by omega, fun a b ha hb => h2 a ha b hb, by omega, fun a ha => (h3 a ha).1, fun a ha => (h3 a ha).2, fun a b c ha hb hc => h4 a ha b hb c hc, h5⟩⟩

theorem dic2_ord : ordl (tbl (fun a b => (dic 2 a b : Nat)) (2 * (2 * 2))) 8 0 = [1, 4, 2, 4, 4, 4, 4, 4] := by decide +kernel

theorem dic2_ord' : ordl (tbl (fun a b => (dic 2 a b : Nat)) 8) 8 0 = [1, 4, 2, 4, 4, 4, 4, 4] := dic2_ord

theorem begun_c : FnC Try.prog 13 [] (.bool true) := by
  have hq : ∀ i, i < 8 → ((([1, 4, 2, 4, 4, 4, 4, 4] : List Int).take (i + 1)).count 4 = (([1, 4, 2, 4, 4, 4, 4, 4] : List Int).take i).count 4 + (if ([1, 4, 2, 4, 4, 4, 4, 4] : List Int).getD i 0 = 4 then 1 else 0)) := by decide
  refine fnc_of tab_ok Try.func13 rfl (by kernel_rfl) (by rw [Try.ntmps13]; exact Nat.le_add_left 0 _) ?_; rw [Try.ntmps13]
  refine qm ?_
  refine hk_region fun K hK => runs_eval tab_ok ?_
  simp only [ev0, evA, evB, evP, fl, gp, tab, simprocAttr, reduceCtorEq, reduceIte]
  refine fin_run trivial (hK _ ?_) <;> clear hK <;> clear K
  refine qa (qm ?_)
  refine hk_region fun K hK => runs_eval tab_ok ?_
  simp only [ev0, evA, evB, evP, fl, gp, tab, simprocAttr, reduceCtorEq, reduceIte]
  refine fin_stop trivial (runs_call (dicyclic_c 2 (by omega) (by omega)) rfl rfl rfl (by simp only [dstOk, Nat.reduceLT]) (by repeat (first | exact trivial | constructor)) (runs_eval tab_ok ?_))
  simp only [ev0, evA, evB, evP, fl, gp, tab, simprocAttr, reduceCtorEq, reduceIte]
  refine fin_run ?_ (hK _ ?_) <;> clear hK <;> clear K
  · (first | exact trivial | omega | (simp only [In64] at *; omega) | (simp [In64] at *; omega) | (simp_all; done) | skip)
  refine qa (qm ?_)
  refine hk_region fun K hK => runs_eval tab_ok ?_
  simp only [ev0, evA, evB, evP, fl, gp, tab, simprocAttr, reduceCtorEq, reduceIte]
  refine fin_stop trivial (runs_call (orders_ok dic2_GT) rfl rfl rfl (by simp only [dstOk, Nat.reduceLT]) (by repeat (first | exact trivial | constructor)) (runs_eval tab_ok ?_))
  simp only [ev0, evA, evB, evP, fl, gp, tab, simprocAttr, reduceCtorEq, reduceIte, dic2_ord, dic2_ord']
  refine fin_run ?_ (hK _ ?_) <;> clear hK <;> clear K
  · (first | exact trivial | omega | (simp only [In64] at *; omega) | (simp [In64] at *; omega) | (simp_all; done) | skip)
  refine qa (qm ?_)
  generalize hL : ([1, 4, 2, 4, 4, 4, 4, 4] : List Int) = L at *
  have hLl : L.length = 8 := by subst hL; rfl
  refine hk_region fun K hK => runs_eval tab_ok ?_
  simp only [ev0, evA, evB, evP, fl, gp, tab, simprocAttr, reduceCtorEq, reduceIte]
  refine fin_run trivial (hK _ ?_) <;> clear hK <;> clear K
  refine qa (qm (qm ?_))
  refine hk_region fun K hK => runs_eval tab_ok ?_
  simp only [ev0, evA, evB, evP, fl, gp, tab, simprocAttr, reduceCtorEq, reduceIte]
  refine fin_run trivial (hK _ ?_) <;> clear hK <;> clear K
  refine qa (ql ?_)
  refine hk_loop (ι := Nat) (fun i => ⟨46, [(1, .ptr 0 0), (2, .ptr 1 0), (3, .p (.list (il L))), (4, .ptr 2 0), (5, .p (.int .i64 ((L.take i).count 4 : Nat))), (6, .p (.int .i64 i))], [.own [.p (.int .i64 8), .p (.list (il (tbl (fun a b => (dic 2 a b : Nat)) (2 * (2 * 2)))))], .own [.p (.int .i64 0), .p (.int .i64 0)], .own [.p (.int .i64 0), .p (.int .i64 0)]]⟩) (fun i => i ≤ 8) (fun i => 8 - i) 0 (by omega) [0, 1, 2] (by simp only [leq, leA, ev0, evA, evB, evP, fl, gp, tab, simprocAttr, reduceCtorEq, reduceIte] <;> simp) fun i hi => ?_
  have hcl : (L.take i).count 4 ≤ (L.take i).length := List.count_le_length
  have hcl2 : (L.take i).length ≤ 8 := by simp; omega
  refine qm (qm ?_)
  refine hk_region fun K hK => runs_eval tab_ok ?_
  simp only [ev0, evA, evB, evP, fl, gp, tab, simprocAttr, reduceCtorEq, reduceIte]
  refine fin_run trivial (hK _ ?_) <;> clear hK <;> clear K
  refine qa ?_
  refine hk_cond rfl (fun hC1 => ?_) (fun hC1 => ?_)
  · (try simp only [nhs] at hC1)
    have hlt : i < L.length := by omega
    have hqi := hq i (by omega)
    refine qh (qa (qm (ql (qm ?_))))
    refine hk_region fun K hK => runs_eval tab_ok ?_
    simp only [ev0, evA, evB, evP, fl, gp, tab, simprocAttr, reduceCtorEq, reduceIte, il_get hlt]
    refine fin_run ?_ (hK _ ?_) <;> clear hK <;> clear K
    · (first | exact trivial | omega | (simp only [In64] at *; omega) | (simp [In64] at *; omega) | (simp_all; done) | skip)
    refine qa ?_
    refine hk_cond rfl (fun hC2 => ?_) (fun hC2 => ?_)
    · (try simp only [nhs] at hC2)
      rw [if_pos hC2] at hqi
      refine hk_region fun K hK => runs_eval tab_ok ?_
      simp only [ev0, evA, evB, evP, fl, gp, tab, simprocAttr, reduceCtorEq, reduceIte]
      refine fin_run ?_ (hK _ ?_) <;> clear hK <;> clear K
      · (first | exact trivial | omega | (simp only [In64] at *; omega) | (simp [In64] at *; omega) | (simp_all; done) | skip)
      refine qd (qa ?_)
      refine hk_region fun K hK => runs_eval tab_ok ?_
      simp only [ev0, evA, evB, evP, fl, gp, tab, simprocAttr, reduceCtorEq, reduceIte]
      refine fin_run ?_ (hK _ ?_) <;> clear hK <;> clear K
      · (first | exact trivial | omega | (simp only [In64] at *; omega) | (simp [In64] at *; omega) | (simp_all; done) | skip)
      refine qa ?_
      refine ⟨i + 1, [0, 1, 2], by omega, by omega, ?_⟩
      rw [hqi]
      simp only [leq, leA, ev0, evA, evB, evP, fl, gp, tab, simprocAttr, reduceCtorEq, reduceIte] <;> first | trivial | omega
    · (try simp only [nhs] at hC2)
      rw [if_neg hC2] at hqi
      refine qh (qd (qa ?_))
      refine hk_region fun K hK => runs_eval tab_ok ?_
      simp only [ev0, evA, evB, evP, fl, gp, tab, simprocAttr, reduceCtorEq, reduceIte]
      refine fin_run ?_ (hK _ ?_) <;> clear hK <;> clear K
      · (first | exact trivial | omega | (simp only [In64] at *; omega) | (simp [In64] at *; omega) | (simp_all; done) | skip)
      refine qa ?_
      refine ⟨i + 1, [0, 1, 2], by omega, by omega, ?_⟩
      rw [hqi]
      simp only [leq, leA, ev0, evA, evB, evP, fl, gp, tab, simprocAttr, reduceCtorEq, reduceIte] <;> first | trivial | omega
  · (try simp only [nhs] at hC1)
    have h8 : i = 8 := by omega
    subst h8
    have hc : (L.take 8).count 4 = 6 := by subst hL; decide
    rw [hc]
    refine qj (qc (qc (qf (qa (qm ?_)))))
    refine hk_region fun K hK => runs_eval tab_ok ?_
    simp only [ev0, evA, evB, evP, fl, gp, tab, simprocAttr, reduceCtorEq, reduceIte]
    refine fin_run ?_ (hK _ ?_) <;> clear hK <;> clear K
    · (first | exact trivial | omega | (simp only [In64] at *; omega) | (simp [In64] at *; omega) | (simp_all; done) | skip)
    refine qa (qk ?_)
    simp only [Try.results13, enA, ev0, evA, evB, evP, fl, gp, tab, simprocAttr, reduceCtorEq, reduceIte]
    all_goals (rfl)
end Go.Proofs.Ytboadfahlflmhaa

/-
  Walks: products of groups. Conditions: none.
-/
set_option linter.all false
namespace Go.Proofs.Ytboadfahlflmhaa
open Go.Pv

/-! ### Products -/

end Go.Proofs.Ytboadfahlflmhaa

/-
  Orders of inverses and products: plain laws, with no program in sight. Conditions: none.
-/
set_option linter.all false
namespace Go.Proofs.Ytboadfahlflmhaa
open Go.Pv

section
variable {n : Nat} {f : Nat → Nat → Nat} {e : Nat}

end

/-! ### Things, out of their fault -/

end Go.Proofs.Ytboadfahlflmhaa

/-
  Products of groups: plain laws, with no program in sight. Conditions: none.
-/
set_option linter.all false
namespace Go.Proofs.Ytboadfahlflmhaa
open Go.Pv

theorem Grp.congr {n : Nat} {f f' : Nat → Nat → Nat} {e : Nat} (G : Grp n f e) (h : ∀ a b, a < n → b < n → f' a b = f a b) : Grp n f' e := by
  refine ⟨G.pos, fun a b ha hb => by rw [h a b ha hb]; exact G.cl a b ha hb, G.el, fun a ha => by rw [h e a G.el ha]; exact G.one_l a ha, fun a ha => by rw [h a e ha G.el]; exact G.one_r a ha, fun a b c ha hb hc => ?_, fun a ha => ?_⟩
  · rw [h a b ha hb, h _ c (G.cl a b ha hb) hc, h b c hb hc, h a _ ha (G.cl b c hb hc)]
    exact G.assoc a b c ha hb hc
  · obtain ⟨b, hb, h1, h2⟩ := G.inv a ha
    exact ⟨b, hb, by rw [h a b ha hb]; exact h1, by rw [h b a hb ha]; exact h2⟩
section
variable {n n' e e' : Nat} {f f' : Nat → Nat → Nat}

end

end Go.Proofs.Ytboadfahlflmhaa

/-
  Plain law: cyclic, dihedral and dicyclic tables are groups; what is told of them. Conditions: none.
-/
set_option linter.all false
namespace Go.Proofs.Ytboadfahlflmhaa
open Go.Pv

/-- Two rows of q things. -/
def gx (q c i s j t : Nat) : Nat := (i + (if s + t = 2 then c else 0) + (if s = 1 then q - j else j)) % q
def gen (q c a b : Nat) : Nat := gx q c (a % q) (a / q) (b % q) (b / q) + (a / q + b / q) % 2 * q

/-! ### The three tables -/

/-! ### The dihedral group moves the corners -/

/-! ### The dicyclic group -/

section
variable {n : Nat} (h1 : 1 ≤ n) (h2 : n ≤ 15)
include h1
include h2
end
end Go.Proofs.Ytboadfahlflmhaa

/-
  Walks: permutations; Cayley's rows. Conditions: none.
-/
set_option linter.all false
namespace Go.Proofs.Ytboadfahlflmhaa
open Go.Pv

/-! ### Rows of rows -/

/-! ### Permutations -/

structure PermOk (p : List Int) : Prop where
  len : p.length ≤ 1000
  rng : ∀ i, i < p.length → 0 ≤ p.getD i 0 ∧ p.getD i 0 < p.length
  inj : ∀ i j, i < p.length → j < p.length → p.getD i 0 = p.getD j 0 → i = j

theorem has_c (l : List Int) (x : Int) (hl : l.length ≤ 1000000000000) (hn : ∀ j, j < l.length → ¬ l.getD j 0 = x) : FnC Try.prog 50 [.list (il l), .int .i64 x] (.bool false) := by
  refine fnc_of tab_ok Try.func50 rfl (by kernel_rfl) (by rw [Try.ntmps50]; exact Nat.le_add_left 2 _) ?_; rw [Try.ntmps50]
  refine qm ?_
  refine hk_region fun K hK => runs_eval tab_ok ?_
  simp only [ev0, evA, evB, evP, fl, gp, tab, simprocAttr, reduceCtorEq, reduceIte]
  refine fin_run trivial (hK _ ?_) <;> clear hK <;> clear K
  refine qa (qm (qm ?_))
  refine hk_region fun K hK => runs_eval tab_ok ?_
  simp only [ev0, evA, evB, evP, fl, gp, tab, simprocAttr, reduceCtorEq, reduceIte]
  refine fin_run trivial (hK _ ?_) <;> clear hK <;> clear K
  refine qa (ql ?_)
  refine hk_loop (ι := Nat) (fun i => ⟨18, [(0, .p (.list (il l))), (1, .p (.int .i64 x)), (5, .p (.int .i64 i))], []⟩) (fun i => i ≤ l.length) (fun i => l.length - i) 0 (Nat.zero_le _) [] (by simp only [leq, leA, ev0, evA, evB, evP, fl, gp, tab, simprocAttr, reduceCtorEq, reduceIte] <;> trivial) fun i hi => ?_
  refine qm (qm ?_)
  refine hk_region fun K hK => runs_eval tab_ok ?_
  simp only [ev0, evA, evB, evP, fl, gp, tab, simprocAttr, reduceCtorEq, reduceIte]
  refine fin_run trivial (hK _ ?_) <;> clear hK <;> clear K
  refine qa ?_
  refine hk_cond rfl (fun hC1 => ?_) (fun hC1 => ?_)
  · (try simp only [nhs] at hC1)
    have hlt : i < l.length := by omega
    refine qh (qa (qm (ql (qm ?_))))
    refine hk_region fun K hK => runs_eval tab_ok ?_
    simp only [ev0, evA, evB, evP, fl, gp, tab, simprocAttr, reduceCtorEq, reduceIte, il_get hlt]
    refine fin_run ?_ (hK _ ?_) <;> clear hK <;> clear K
    · (first | exact trivial | omega | (simp only [In64] at *; omega) | (simp [In64] at *; omega) | (simp_all; done) | skip)
    refine qa ?_
    refine hk_cond rfl (fun hC2 => ?_) (fun hC2 => ?_)
    · (try simp only [nhs] at hC2)
      exact absurd hC2 (hn i hlt)
    · (try simp only [nhs] at hC2)
      refine qh (qd (qa ?_))
      refine hk_region fun K hK => runs_eval tab_ok ?_
      simp only [ev0, evA, evB, evP, fl, gp, tab, simprocAttr, reduceCtorEq, reduceIte]
      refine fin_run ?_ (hK _ ?_) <;> clear hK <;> clear K
      · (first | exact trivial | omega | (simp only [In64] at *; omega) | (simp [In64] at *; omega) | (simp_all; done) | skip)
      refine qa ?_
      refine ⟨i + 1, [], by omega, by omega, ?_⟩
      simp only [leq, leA, ev0, evA, evB, evP, fl, gp, tab, simprocAttr, reduceCtorEq, reduceIte] <;> first | trivial | omega
  · (try simp only [nhs] at hC1)
    refine qj (qc (qc (qf (qa (qm ?_)))))
    refine hk_region fun K hK => runs_eval tab_ok ?_
    simp only [ev0, evA, evB, evP, fl, gp, tab, simprocAttr, reduceCtorEq, reduceIte]
    refine fin_run trivial (hK _ ?_) <;> clear hK <;> clear K
    refine qa (qk ?_)
    simp only [Try.results50, enA, ev0, evA, evB, evP, fl, gp, tab, simprocAttr, reduceCtorEq, reduceIte]
    all_goals ((first | exact rfl | exact ⟨rfl, rfl⟩ | exact ⟨rfl, rfl, rfl⟩ | exact ⟨trivial, rfl⟩ | exact ⟨Nat.le_refl _, rfl⟩ | trivial | (simp; done)))

theorem getD_take' {o : List Int} {n i : Nat} (h : i < n) : (o.take n).getD i 0 = o.getD i 0 := by
  simp [List.getD, List.getElem?_take, h]

theorem permFault_c {p : List Int} (h : PermOk p) : FnC Try.prog 17 [.list (il p)] (fl (0, 0)) := by
  have hl := h.len
  refine fnc_of tab_ok Try.func17 rfl (by kernel_rfl) (by rw [Try.ntmps17]; exact Nat.le_add_left 1 _) ?_; rw [Try.ntmps17]
  refine qm ?_
  refine hk_region fun K hK => runs_eval tab_ok ?_
  simp only [ev0, evA, evB, evP, fl, gp, tab, simprocAttr, reduceCtorEq, reduceIte]
  refine fin_run ?_ (hK _ ?_) <;> clear hK <;> clear K
  · (first | exact trivial | omega | (simp only [In64] at *; omega) | (simp [In64] at *; omega) | (simp_all; done) | skip)
  refine qa (qm (qm ?_))
  refine hk_region fun K hK => runs_eval tab_ok ?_
  simp only [ev0, evA, evB, evP, fl, gp, tab, simprocAttr, reduceCtorEq, reduceIte]
  refine fin_run trivial (hK _ ?_) <;> clear hK <;> clear K
  refine qa ?_
  refine hk_cond rfl (fun hC1 => ?_) (fun hC1 => ?_)
  · (try simp only [nhs] at hC1)
    omega
  · (try simp only [nhs] at hC1)
    refine qh (qa (qm (qm ?_)))
    refine hk_region fun K hK => runs_eval tab_ok ?_
    simp only [ev0, evA, evB, evP, fl, gp, tab, simprocAttr, reduceCtorEq, reduceIte]
    refine fin_run trivial (hK _ ?_) <;> clear hK <;> clear K
    refine qa (ql ?_)
    refine hk_loop (ι := Nat) (fun i => ⟨41, [(0, .p (.list (il p))), (2, .ptr 0 0), (3, .p (.int .i64 i))], [.own [.p (.int .i64 0), .p (.int .i64 0)]]⟩) (fun i => i ≤ p.length) (fun i => p.length - i) 0 (Nat.zero_le _) [0] (by simp only [leq, leA, ev0, evA, evB, evP, fl, gp, tab, simprocAttr, reduceCtorEq, reduceIte] <;> trivial) fun i hi => ?_
    refine qm (qm ?_)
    refine hk_region fun K hK => runs_eval tab_ok ?_
    simp only [ev0, evA, evB, evP, fl, gp, tab, simprocAttr, reduceCtorEq, reduceIte]
    refine fin_run trivial (hK _ ?_) <;> clear hK <;> clear K
    refine qa ?_
    refine hk_cond rfl (fun hC2 => ?_) (fun hC2 => ?_)
    · (try simp only [nhs] at hC2)
      have hlt : i < p.length := by omega
      obtain ⟨r1, r2⟩ := h.rng i hlt
      refine qh (qa (qm (ql (qm (qm ?_)))))
      refine hk_region fun K hK => runs_eval tab_ok ?_
      simp only [ev0, evA, evB, evP, fl, gp, tab, simprocAttr, reduceCtorEq, reduceIte, il_get hlt, decide_eq_false (show ¬ p.getD i 0 < 0 by omega), decide_eq_false (show ¬ p.getD i 0 ≥ p.length by omega)]
      refine fin_run ?_ (hK _ ?_) <;> clear hK <;> clear K
      · (first | exact trivial | omega | (simp only [In64] at *; omega) | (simp [In64] at *; omega) | (simp_all; done) | skip)
      refine qa ?_
      refine hk_cond rfl (fun hC3 => ?_) (fun hC3 => ?_)
      · cases hC3
      · (try simp only [nhs] at hC3)
        refine qh (qa (qm ?_))
        refine hk_draw mixed (by kernel_rfl) fun K hK => runs_eval tab_ok ?_
        simp only [ev0, evA, evB, evP, fl, gp, tab, simprocAttr, reduceCtorEq, reduceIte, il_get hlt]
        refine fin_stop ?_ (runs_call (has_c (p.take i) (p.getD i 0) (by rw [List.length_take]; omega) (fun j hj he => by
          rw [List.length_take] at hj
          rw [getD_take' (by omega)] at he
          have := h.inj j i (by omega) hlt he
          omega)) rfl rfl rfl (by simp only [dstOk, Nat.reduceLT]) (by repeat (first | exact trivial | constructor)) (runs_eval tab_ok ?_))
        · (first | exact trivial | omega | (simp only [In64] at *; omega) | (simp [In64] at *; omega) | (simp_all; done) | skip)
        simp only [ev0, evA, evB, evP, fl, gp, tab, simprocAttr, reduceCtorEq, reduceIte, il_get hlt]
        refine fin_run ?_ (hK _ ?_) <;> clear hK <;> clear K
        · (first | exact trivial | omega | (simp only [In64] at *; omega) | (simp [In64] at *; omega) | (simp_all; done) | skip)
        refine qa ?_
        refine hk_cond rfl (fun hC4 => ?_) (fun hC4 => ?_)
        · cases hC4
        · (try simp only [nhs] at hC4)
          refine qh (qd (qa ?_))
          refine hk_region fun K hK => runs_eval tab_ok ?_
          simp only [ev0, evA, evB, evP, fl, gp, tab, simprocAttr, reduceCtorEq, reduceIte]
          refine fin_run ?_ (hK _ ?_) <;> clear hK <;> clear K
          · (first | exact trivial | omega | (simp only [In64] at *; omega) | (simp [In64] at *; omega) | (simp_all; done) | skip)
          refine qa ?_
          refine ⟨i + 1, [0], by omega, by omega, ?_⟩
          simp only [leq, leA, ev0, evA, evB, evP, fl, gp, tab, simprocAttr, reduceCtorEq, reduceIte] <;> first | trivial | omega
    · (try simp only [nhs] at hC2)
      refine qj (qc (qc (qf (qa (qm ?_)))))
      refine hk_region fun K hK => runs_eval tab_ok ?_
      simp only [ev0, evA, evB, evP, fl, gp, tab, simprocAttr, reduceCtorEq, reduceIte]
      refine fin_run ?_ (hK _ ?_) <;> clear hK <;> clear K
      · (first | exact trivial | omega | (simp only [In64] at *; omega) | (simp [In64] at *; omega) | (simp_all; done) | skip)
      refine qa (qk ?_)
      simp only [Try.results17, enA, ev0, evA, evB, evP, fl, gp, tab, simprocAttr, reduceCtorEq, reduceIte]
      all_goals ((first | exact rfl | exact ⟨rfl, rfl⟩ | exact ⟨rfl, rfl, rfl⟩ | exact ⟨trivial, rfl⟩ | exact ⟨Nat.le_refl _, rfl⟩ | trivial | (simp; done)))

/-- A row of marks. -/
def bl (f : Nat → Bool) (n : Nat) : List AV := (List.range n).map fun v => .p (.bool (f v))
theorem bl_len (f : Nat → Bool) (n : Nat) : (bl f n).length = n := by simp [bl]
theorem bl_get (f : Nat → Bool) {n i : Nat} (h : i < n) (d : AV) : (bl f n).getD i d = .p (.bool (f i)) := by simp [bl, List.getD, List.getElem?_range h]
theorem bl_rep (n : Nat) : List.replicate n (AV.p (.bool false)) = bl (fun _ => false) n := by
  apply List.ext_getElem
  · simp [bl]
  · intro i h1 h2; simp [bl]
theorem bl_set (f : Nat → Bool) (n i : Nat) : (bl f n).set i (.p (.bool true)) = bl (fun v => f v || v == i) n := by
  apply List.ext_getElem
  · simp [bl]
  · intro j h1 h2
    simp only [bl, List.getElem_set, List.getElem_map, List.getElem_range]
    by_cases e : i = j
    · subst e; simp
    · rw [if_neg e, show (j == i) = false by simpa using fun h => e h.symm, Bool.or_false]
theorem bl_ren (f : Nat → Bool) (n : Nat) (π : List Nat) : (bl f n).map (Go.Pv.ren π) = bl f n := by simp [bl, Go.Pv.ren, ren1]
theorem bl_sc (f : Nat → Bool) (n k : Nat) : (bl f n).all (scA k) = true := by simp [bl, scA, sc1]
theorem bl_take (f : Nat → Bool) (n : Nat) : (bl f n).take n = bl f n := List.take_of_length_le (by simp [bl])

theorem permCheck_c {p : List Int} (h : PermOk p) : FnC Try.prog 37 [.list (il p)] (fl (0, 0)) := by
  have hl := h.len
  refine fnc_of tab_ok Try.func37 rfl (by kernel_rfl) (by rw [Try.ntmps37]; exact Nat.le_add_left 1 _) ?_; rw [Try.ntmps37]
  refine qm ?_
  refine hk_region fun K hK => runs_eval tab_ok ?_
  simp only [ev0, evA, evB, evP, fl, gp, tab, simprocAttr, reduceCtorEq, reduceIte]
  refine fin_run ?_ (hK _ ?_) <;> clear hK <;> clear K
  · (first | exact trivial | omega | (simp only [In64] at *; omega) | (simp [In64] at *; omega) | (simp_all; done) | skip)
  refine qa (qm (qm ?_))
  refine hk_region fun K hK => runs_eval tab_ok ?_
  simp only [ev0, evA, evB, evP, fl, gp, tab, simprocAttr, reduceCtorEq, reduceIte]
  refine fin_run trivial (hK _ ?_) <;> clear hK <;> clear K
  refine qa ?_
  refine hk_cond rfl (fun hC1 => ?_) (fun hC1 => ?_)
  · (try simp only [nhs] at hC1)
    omega
  · (try simp only [nhs] at hC1)
    refine qh (qa (qm ?_))
    refine hk_region fun K hK => runs_eval tab_ok ?_
    simp only [ev0, evA, evB, evP, fl, gp, tab, simprocAttr, reduceCtorEq, reduceIte, bl_rep]
    refine fin_run ?_ (hK _ ?_) <;> clear hK <;> clear K
    · simp [dstOk]; omega
    refine qa (qm (qm ?_))
    refine hk_region fun K hK => runs_eval tab_ok ?_
    simp only [ev0, evA, evB, evP, fl, gp, tab, simprocAttr, reduceCtorEq, reduceIte]
    refine fin_run trivial (hK _ ?_) <;> clear hK <;> clear K
    refine qa (ql ?_)
    refine hk_loop (ι := Nat) (fun i => ⟨41, [(0, .p (.list (il p))), (2, .ptr 0 0), (3, .sl 1 0 p.length), (13, .p (.list (il p))), (14, .p (.int .i64 p.length)), (15, .p (.int .i64 i))], [.own [.p (.int .i64 0), .p (.int .i64 0)], .own (bl (fun v => decide (∃ j, j < i ∧ p.getD j 0 = (v : Nat))) p.length)]⟩) (fun i => i ≤ p.length) (fun i => p.length - i) 0 (Nat.zero_le _) [0, 1] (by simp only [leq, leA, ev0, evA, evB, evP, fl, gp, tab, simprocAttr, reduceCtorEq, reduceIte, bl_ren, bl_sc, bl_len, bl_take] <;> simp [bl] <;> exact (bl_rep _).symm) fun i hi => ?_
    refine qm ?_
    refine hk_region fun K hK => runs_eval tab_ok ?_
    simp only [ev0, evA, evB, evP, fl, gp, tab, simprocAttr, reduceCtorEq, reduceIte]
    refine fin_run trivial (hK _ ?_) <;> clear hK <;> clear K
    refine qa (qm ?_)
    refine hk_cond rfl (fun hC2 => ?_) (fun hC2 => ?_)
    · (try simp only [nhs] at hC2)
      have hlt : i < p.length := by omega
      obtain ⟨r1, r2⟩ := h.rng i hlt
      obtain ⟨x, hx⟩ := Int.eq_ofNat_of_zero_le r1
      have hxl : x < p.length := by omega
      have hnot : decide (∃ j, j < i ∧ p.getD j 0 = (x : Nat)) = false := decide_eq_false fun ⟨j, hj, he⟩ => by
        have := h.inj j i (by omega) hlt (by rw [he, hx])
        omega
      refine qh (qa (qm (ql (qm ?_))))
      refine hk_region fun K hK => runs_eval tab_ok ?_
      simp only [ev0, evA, evB, evP, fl, gp, tab, simprocAttr, reduceCtorEq, reduceIte, il_get hlt, hx]
      refine fin_run ?_ (hK _ ?_) <;> clear hK <;> clear K
      · (first | exact trivial | omega | (simp only [In64] at *; omega) | (simp [In64] at *; omega) | (simp_all; done) | skip)
      refine qa (qm (qm ?_))
      refine hk_region fun K hK => runs_eval tab_ok ?_
      simp only [ev0, evA, evB, evP, fl, gp, tab, simprocAttr, reduceCtorEq, reduceIte, decide_eq_false (show ¬ ((x : Nat) : Int) < 0 by omega), decide_eq_false (show ¬ ((x : Nat) : Int) ≥ p.length by omega)]
      refine fin_run trivial (hK _ ?_) <;> clear hK <;> clear K
      refine qa ?_
      refine hk_cond rfl (fun hC3 => ?_) (fun hC3 => ?_)
      · cases hC3
      · (try simp only [nhs] at hC3)
        refine qh (qa (qm (qm ?_)))
        refine hk_region fun K hK => runs_eval tab_ok ?_
        simp only [ev0, evA, evB, evP, fl, gp, tab, simprocAttr, reduceCtorEq, reduceIte, bl_get _ hxl, hnot, Nat.zero_add]
        refine fin_run ?_ (hK _ ?_) <;> clear hK <;> clear K
        · rw [bl_len]; omega
        refine qa ?_
        refine hk_cond rfl (fun hC4 => ?_) (fun hC4 => ?_)
        · cases hC4
        · (try simp only [nhs] at hC4)
          refine qh (qa ?_)
          refine hk_region fun K hK => runs_eval tab_ok ?_
          simp only [ev0, evA, evB, evP, fl, gp, tab, simprocAttr, reduceCtorEq, reduceIte, Nat.zero_add, bl_set, bl_len]
          refine fin_run ?_ (hK _ ?_) <;> clear hK <;> clear K
          · first | omega | (simp [cellOk, PV.one]; omega)
          refine qd (qa ?_)
          refine hk_region fun K hK => runs_eval tab_ok ?_
          simp only [ev0, evA, evB, evP, fl, gp, tab, simprocAttr, reduceCtorEq, reduceIte]
          refine fin_run ?_ (hK _ ?_) <;> clear hK <;> clear K
          · (first | exact trivial | omega | (simp only [In64] at *; omega) | (simp [In64] at *; omega) | (simp_all; done) | skip)
          refine qa ?_
          refine ⟨i + 1, [0, 1], by omega, by omega, ?_⟩
          have hset : (fun v => (decide (∃ j, j < i ∧ p.getD j 0 = (v : Nat)) || v == x)) = fun v : Nat => decide (∃ j, j < i + 1 ∧ p.getD j 0 = (v : Nat)) := by
            funext v
            rw [Bool.eq_iff_iff]
            simp only [Bool.or_eq_true, decide_eq_true_eq, beq_iff_eq]
            constructor
            · rintro (⟨j, hj, he⟩ | rfl)
              · exact ⟨j, by omega, he⟩
              · exact ⟨i, by omega, hx⟩
            · rintro ⟨j, hj, he⟩
              by_cases hji : j = i
              · subst hji; right; omega
              · left; exact ⟨j, by omega, he⟩
          rw [← hset]
          simp only [leq, leA, ev0, evA, evB, evP, fl, gp, tab, simprocAttr, reduceCtorEq, reduceIte, bl_ren, bl_sc, bl_len, bl_take] <;> first | trivial | omega
    · (try simp only [nhs] at hC2)
      refine qj (qc (qc (qf (qa (qm ?_)))))
      refine hk_region fun K hK => runs_eval tab_ok ?_
      simp only [ev0, evA, evB, evP, fl, gp, tab, simprocAttr, reduceCtorEq, reduceIte]
      refine fin_run ?_ (hK _ ?_) <;> clear hK <;> clear K
      · (first | exact trivial | omega | (simp only [In64] at *; omega) | (simp [In64] at *; omega) | (simp_all; done) | skip)
      refine qa (qk ?_)
      simp only [Try.results37, enA, ev0, evA, evB, evP, fl, gp, tab, simprocAttr, reduceCtorEq, reduceIte]
      all_goals ((first | exact rfl | exact ⟨rfl, rfl⟩ | exact ⟨rfl, rfl, rfl⟩ | exact ⟨trivial, rfl⟩ | exact ⟨Nat.le_refl _, rfl⟩ | trivial | (simp; done)))

/-- The product of permutations: by the first, then by the second. -/
def thn (p q : List Int) : List Int := p.map fun x => q.getD x.toNat 0
def thz (p q : List Int) (i : Nat) : List Int := (List.range p.length).map fun j => if j < i then q.getD (p.getD j 0).toNat 0 else 0

theorem thz_len (p q : List Int) (i : Nat) : (thz p q i).length = p.length := by simp [thz]
theorem thz_zero (p q : List Int) : List.replicate p.length 0 = thz p q 0 := by
  apply List.ext_getElem
  · simp [thz]
  · intro i h1 h2; simp [thz]
theorem thz_set (p q : List Int) {i : Nat} : (thz p q i).set i (q.getD (p.getD i 0).toNat 0) = thz p q (i + 1) := by
  apply List.ext_getElem
  · simp [thz]
  · intro j h1 h2
    simp only [thz, List.getElem_set, List.getElem_map, List.getElem_range]
    by_cases e : i = j
    · subst e; simp
    · rw [if_neg e]
      by_cases hj : j < i
      · rw [if_pos hj, if_pos (by omega)]
      · rw [if_neg hj, if_neg (by omega)]
theorem thz_all (p q : List Int) : thz p q p.length = thn p q := by
  apply List.ext_getElem
  · simp [thz, thn]
  · intro j h1 h2
    have hj : j < p.length := by simpa [thn] using h2
    simp [thz, thn, hj, List.getD, List.getElem?_eq_getElem hj]

theorem times_c {p q : List Int} (hp : PermOk p) (hq : q.length = p.length) : FnC Try.prog 43 [.list (il p), .list (il q)] (.list (il (thn p q))) := by
  have hl := hp.len
  refine fnc_of tab_ok Try.func43 rfl (by kernel_rfl) (by rw [Try.ntmps43]; exact Nat.le_add_left 2 _) ?_; rw [Try.ntmps43]
  refine qm ?_
  refine hk_region fun K hK => runs_eval tab_ok ?_
  simp only [ev0, evA, evB, evP, fl, gp, tab, simprocAttr, reduceCtorEq, reduceIte]
  refine fin_run trivial (hK _ ?_) <;> clear hK <;> clear K
  refine qa (qm ?_)
  refine hk_region fun K hK => runs_eval tab_ok ?_
  simp only [ev0, evA, evB, evP, fl, gp, tab, simprocAttr, reduceCtorEq, reduceIte, ol_replicate, thz_zero p q]
  refine fin_run ?_ (hK _ ?_) <;> clear hK <;> clear K
  · simp [dstOk]; omega
  refine qa (qm (qm ?_))
  refine hk_region fun K hK => runs_eval tab_ok ?_
  simp only [ev0, evA, evB, evP, fl, gp, tab, simprocAttr, reduceCtorEq, reduceIte]
  refine fin_run trivial (hK _ ?_) <;> clear hK <;> clear K
  refine qa (ql ?_)
  refine hk_loop (ι := Nat) (fun i => ⟨27, [(1, .p (.list (il q))), (5, .sl 0 0 (thz p q i).length), (11, .p (.list (il p))), (12, .p (.int .i64 p.length)), (13, .p (.int .i64 i))], [.own (ol (thz p q i))]⟩) (fun i => i ≤ p.length) (fun i => p.length - i) 0 (Nat.zero_le _) [0] (by simp only [leq, leA, ev0, evA, evB, evP, fl, gp, tab, simprocAttr, reduceCtorEq, reduceIte] <;> simp [thz_len] <;> (rw [← thz_zero, ← ol_replicate])) fun i hi => ?_
  have htl := thz_len p q i
  refine qm ?_
  refine hk_region fun K hK => runs_eval tab_ok ?_
  simp only [ev0, evA, evB, evP, fl, gp, tab, simprocAttr, reduceCtorEq, reduceIte]
  refine fin_run trivial (hK _ ?_) <;> clear hK <;> clear K
  refine qa (qm ?_)
  refine hk_cond rfl (fun hC1 => ?_) (fun hC1 => ?_)
  · (try simp only [nhs] at hC1)
    have hlt : i < p.length := by omega
    obtain ⟨r1, r2⟩ := hp.rng i hlt
    have hxl : (p.getD i 0).toNat < q.length := by omega
    refine qh (qa (qm (ql (qm ?_))))
    refine hk_region fun K hK => runs_eval tab_ok ?_
    simp only [ev0, evA, evB, evP, fl, gp, tab, simprocAttr, reduceCtorEq, reduceIte, il_get hlt]
    refine fin_run ?_ (hK _ ?_) <;> clear hK <;> clear K
    · (first | exact trivial | omega | (simp only [In64] at *; omega) | (simp [In64] at *; omega) | (simp_all; done) | skip)
    refine qa ?_
    refine hk_region fun K hK => runs_eval tab_ok ?_
    simp only [ev0, evA, evB, evP, fl, gp, tab, simprocAttr, reduceCtorEq, reduceIte, il_get hxl, Nat.zero_add, ol_set, thz_set]
    refine fin_run ?_ (hK _ ?_) <;> clear hK <;> clear K
    · (first | exact trivial | omega | (simp only [In64] at *; omega) | (simp [In64] at *; omega) | (simp_all; done) | skip)
    refine qd (qa ?_)
    refine hk_region fun K hK => runs_eval tab_ok ?_
    simp only [ev0, evA, evB, evP, fl, gp, tab, simprocAttr, reduceCtorEq, reduceIte]
    refine fin_run ?_ (hK _ ?_) <;> clear hK <;> clear K
    · (first | exact trivial | omega | (simp only [In64] at *; omega) | (simp [In64] at *; omega) | (simp_all; done) | skip)
    refine qa ?_
    refine ⟨i + 1, [0], by omega, by omega, ?_⟩
    have htl2 := thz_len p q (i + 1)
    simp only [leq, leA, ev0, evA, evB, evP, fl, gp, tab, simprocAttr, reduceCtorEq, reduceIte] <;> first | trivial | omega | (rw [htl, htl2])
  · (try simp only [nhs] at hC1)
    have hin : i = p.length := by omega
    rw [hin]
    rw [hin] at htl
    refine hk_seal 5 0 rfl rfl ?_
    refine qj (qc (qc (qf (qa (qm ?_)))))
    refine hk_region fun K hK => runs_eval tab_ok ?_
    simp only [ev0, evA, evB, evP, fl, gp, tab, simprocAttr, reduceCtorEq, reduceIte]
    refine fin_run trivial (hK _ ?_) <;> clear hK <;> clear K
    refine qa (qk ?_)
    simp only [Try.results43, enA, ev0, evA, evB, evP, fl, gp, tab, simprocAttr, reduceCtorEq, reduceIte]
    all_goals (rw [thz_all])
end Go.Proofs.Ytboadfahlflmhaa

/-
  Walks: a corner's moves, one after the other; cyclic tables without bound. Conditions: none.
-/
set_option linter.all false
namespace Go.Proofs.Ytboadfahlflmhaa
open Go.Pv

theorem then_c (p q : List Int) (hp : ∀ x ∈ p, 0 ≤ x ∧ x < q.length) (hl : p.length ≤ 1000000) (hq : q.length ≤ 1000000) : FnC Try.prog 22 [.list (il p), .list (il q)] (.list (il (thn p q))) := by
  refine fnc_of tab_ok Try.func22 rfl (by kernel_rfl) (by rw [Try.ntmps22]; exact Nat.le_add_left 2 _) ?_; rw [Try.ntmps22]
  refine qm ?_
  refine hk_region fun K hK => runs_eval tab_ok ?_
  simp only [ev0, evA, evB, evP, fl, gp, tab, simprocAttr, reduceCtorEq, reduceIte]
  refine fin_run trivial (hK _ ?_) <;> clear hK <;> clear K
  refine qa (qm ?_)
  refine hk_region fun K hK => runs_eval tab_ok ?_
  simp only [ev0, evA, evB, evP, fl, gp, tab, simprocAttr, reduceCtorEq, reduceIte]
  refine fin_run trivial (hK _ ?_) <;> clear hK <;> clear K
  refine qa (qm (qm ?_))
  refine hk_own0 5 rfl ?_
  refine hk_region fun K hK => runs_eval tab_ok ?_
  simp only [ev0, evA, evB, evP, fl, gp, tab, simprocAttr, reduceCtorEq, reduceIte]
  refine fin_run trivial (hK _ ?_) <;> clear hK <;> clear K
  refine qa (ql ?_)
  refine hk_loop (ι := Nat) (fun i => ⟨24, [(0, .p (.list (il p))), (1, .p (.list (il q))), (5, .sl 0 0 (thn (p.take i) q).length), (6, .p (.int .i64 i))], [.own (ol (thn (p.take i) q))]⟩) (fun i => i ≤ p.length) (fun i => p.length - i) 0 (Nat.zero_le _) [0] (by simp only [leq, leA, ev0, evA, evB, evP, fl, gp, tab, simprocAttr, reduceCtorEq, reduceIte] <;> simp [thn, ol_nil]) fun i hi => ?_
  have hrl : (thn (p.take i) q).length = i := by simp [thn]; omega
  refine qm (qm ?_)
  refine hk_region fun K hK => runs_eval tab_ok ?_
  simp only [ev0, evA, evB, evP, fl, gp, tab, simprocAttr, reduceCtorEq, reduceIte]
  refine fin_run trivial (hK _ ?_) <;> clear hK <;> clear K
  refine qa ?_
  refine hk_cond rfl (fun hC1 => ?_) (fun hC1 => ?_)
  · (try simp only [nhs] at hC1)
    have hlt : i < p.length := by omega
    obtain ⟨r1, r2⟩ := hp _ (List.getElem_mem hlt)
    rw [← show p.getD i 0 = p[i] by simp [List.getD, List.getElem?_eq_getElem hlt]] at r1 r2
    have hxl : (p.getD i 0).toNat < q.length := by omega
    have hst : thn (p.take (i + 1)) q = thn (p.take i) q ++ [q.getD (p.getD i 0).toNat 0] := by
      unfold thn
      rw [List.take_succ_eq_append_getElem hlt, List.map_append]
      simp [List.getD, List.getElem?_eq_getElem hlt]
    refine qh (qa (qm (ql ?_)))
    refine hk_region fun K hK => runs_eval tab_ok ?_
    simp only [ev0, evA, evB, evP, fl, gp, tab, simprocAttr, reduceCtorEq, reduceIte, il_get hlt, il_get hxl]
    refine fin_run ?_ (hK _ ?_) <;> clear hK <;> clear K
    · (first | exact trivial | omega | (simp only [In64] at *; omega) | (simp [In64] at *; omega) | (simp_all; done) | skip)
    refine qd (qa ?_)
    refine hk_region fun K hK => runs_eval tab_ok ?_
    simp only [ev0, evA, evB, evP, fl, gp, tab, simprocAttr, reduceCtorEq, reduceIte]
    refine fin_run ?_ (hK _ ?_) <;> clear hK <;> clear K
    · (first | exact trivial | omega | (simp only [In64] at *; omega) | (simp [In64] at *; omega) | (simp_all; done) | skip)
    refine qa ?_
    refine ⟨i + 1, [1], by omega, by omega, ?_⟩
    rw [hst]
    simp only [leq, leA, ev0, evA, evB, evP, fl, gp, tab, simprocAttr, reduceCtorEq, reduceIte] <;> first | trivial | omega
  · (try simp only [nhs] at hC1)
    have hin : i = p.length := by omega
    rw [hin, List.take_length]
    rw [hin, List.take_length] at hrl
    refine hk_seal 5 0 rfl rfl ?_
    refine qj (qc (qc (qf (qa (qm ?_)))))
    refine hk_region fun K hK => runs_eval tab_ok ?_
    simp only [ev0, evA, evB, evP, fl, gp, tab, simprocAttr, reduceCtorEq, reduceIte]
    refine fin_run trivial (hK _ ?_) <;> clear hK <;> clear K
    refine qa (qk ?_)
    simp only [Try.results22, enA, ev0, evA, evB, evP, fl, gp, tab, simprocAttr, reduceCtorEq, reduceIte]
    all_goals (rfl)
end Go.Proofs.Ytboadfahlflmhaa

/-
  Calls that write what is the caller's own: contracts over blocks. Conditions: none; a library text.
-/
set_option linter.all false
namespace Go.Pv
open Go.RowKit

def ancs : Nat → Nat → Heap
  | _, 0 => []
  | k, n + 1 => .anc k k :: ancs (k + 1) n

theorem ancs_get : ∀ (n k j : Nat) (b : Blk), (ancs k n)[j]? = some b → j < n ∧ b = .anc (k + j) (k + j)
  | 0, k, j, b, h => by simp [ancs] at h
  | n + 1, k, 0, b, h => by simp [ancs] at h; exact ⟨by omega, h.symm⟩
  | n + 1, k, j + 1, b, h => by
    have := ancs_get n (k + 1) j b (by simpa [ancs] using h)
    refine ⟨by omega, ?_⟩
    rw [this.2, show k + 1 + j = k + (j + 1) by omega]

theorem ancs_at : ∀ (n k j : Nat), j < n → (ancs k n)[j]? = some (.anc (k + j) (k + j))
  | n + 1, k, 0, _ => rfl
  | n + 1, k, j + 1, h => by
    rw [show ancs k (n + 1) = .anc k k :: ancs (k + 1) n from rfl, List.getElem?_cons_succ, ancs_at n (k + 1) j (by omega), show k + 1 + j = k + (j + 1) by omega]

def entA : Nat → List AV → List (Nat × AV)
  | _, [] => []
  | k, a :: r => (k, a) :: entA (k + 1) r

theorem entA_lk : ∀ (l : List AV) (k t : Nat), lk (entA k l) t = if k ≤ t then l.getD (t - k) .dead else .dead
  | [], k, t => by simp [entA, lk]
  | a :: r, k, t => by
    simp only [entA, lk]
    by_cases h : k = t
    · subst h; simp
    · rw [show (k == t) = false by simpa using h]
      simp only [cond_false]
      rw [entA_lk r (k + 1) t]
      by_cases hk : k ≤ t
      · rw [if_pos (by omega), if_pos hk, show t - k = (t - (k + 1)) + 1 by omega]; rfl
      · rw [if_neg (by omega), if_neg hk]

theorem app_get {H X : Heap} {k : Nat} {b : Blk} (h : (H ++ X)[k]? = some b) : (k < H.length ∧ H[k]? = some b) ∨ X[k - H.length]? = some b := by
  by_cases hk : k < H.length
  · exact .inl ⟨hk, by rwa [List.getElem?_append_left hk] at h⟩
  · exact .inr (by rwa [List.getElem?_append_right (by omega)] at h)

section
variable {P : Program} {T : TypeId → Option TI} {C : Ctx} {m : Map} {s : St} {tmps : Array Value} {w : World}

theorem Rel.addAnc (R : Rel C m s tmps w) {n : Nat} (hn : n ≤ s.H.length) (ha : ∀ i, i < n → m i = C.anc i) : Rel C m { s with H := s.H ++ ancs 0 n } tmps w := by
  have gen : ∀ (k : Nat) (b : Blk), (∀ i j, b ≠ .anc i j) → (s.H ++ ancs 0 n)[k]? = some b → k < s.H.length ∧ s.H[k]? = some b := by
    intro k b hb h
    rcases app_get h with h | h
    · exact h
    · exact absurd (ancs_get _ _ _ _ h).2 (hb _ _)
  have own : ∀ (k : Nat) (c : List AV), (s.H ++ ancs 0 n)[k]? = some (.own c) → k < s.H.length ∧ s.H[k]? = some (.own c) := fun k c h => gen k _ (fun _ _ h => by cases h) h
  have mps : ∀ (k : Nat) (kk : IntKind) (d : Int → Bool) (v : Int → PV), (s.H ++ ancs 0 n)[k]? = some (Blk.mp kk d v) → k < s.H.length ∧ s.H[k]? = some (Blk.mp kk d v) := fun k _ _ _ h => gen k _ (fun _ _ h => by cases h) h
  have ho : ∀ b, OK C m s.H w b → OK C m (s.H ++ ancs 0 n) w b := fun b h => ⟨h.1, h.2.1, fun k c l hk hl => h.2.2 k c l (own k c hk).2 hl⟩
  have hlen : s.H.length ≤ (s.H ++ ancs 0 n).length := by simp
  have rd : ∀ p v, Reads (OK C m s.H w) w p v → Reads (OK C m (s.H ++ ancs 0 n) w) w p v := fun p v h => h.mono ho
  refine ⟨R.laid.ext rd, R.below, R.base, R.size, fun k k' c c' l l' h1 h2 => R.inj k k' c c' l l' (own k c h1).2 (own k' c' h2).2, fun k c h => (R.blk k c (own k c h).2).ext rd hlen (fun _ _ => rfl) rfl fun _ _ => rfl,
    fun k c h => (R.fro k c (gen k _ (fun _ _ h => by cases h) h).2).ext ho (fun _ _ => rfl) rfl, fun t => (R.slot t).ext rd hlen fun _ _ => rfl, fun k kk d v h => (R.mp.1 k kk d v (mps k kk d v h).2).ext ho (fun _ _ => rfl) rfl fun _ _ => rfl,
    fun k k' kk d v kk' d' v' l l' h1 h2 => R.mp.2.1 k k' kk d v kk' d' v' l l' (mps _ _ _ _ h1).2 (mps _ _ _ _ h2).2, fun k i j h => ?_, R.mp.2.2.2.ext id (fun k r h => ⟨(gen k _ (fun _ _ h => by cases h) h).2, rfl⟩) (fun _ _ _ _ _ _ h => h) (fun _ _ _ _ _ _ => rfl) fun _ _ _ _ _ h => h⟩
  rcases app_get h with h | h
  · obtain ⟨a1, a2⟩ := R.mp.2.2.1 k i j h.2
    exact ⟨by simp; omega, a2⟩
  · obtain ⟨a1, a2⟩ := ancs_get _ _ _ _ h
    cases a2
    refine ⟨by simp; omega, ?_⟩
    rw [ha _ (by omega)]

/-! ### The contract -/

/-- A CONTRACT OVER BLOCKS: called with values that are so over such blocks of the caller's own, the function returns so, over those blocks as they are then, and new ones. -/
def FnM (P : Program) (f : FuncId) (args : List AV) (H0 : Heap) (r : AV) (H1 : Heap) : Prop :=
  Fun P f ∧ ∀ (C : Ctx) (m : Map) (w : World) (vals : Array Value), Rel C m ⟨args.length, entA 0 args, H0 ++ ancs 0 H0.length⟩ vals w →
    Calls P f vals w fun e w' => ∃ v m', e = .returned v ∧ Rel C m' ⟨1, [(0, r)], H1 ++ ancs 0 H0.length⟩ #[v] w'

theorem fnm_of (hT : ∀ t ti, T t = some ti → tiOf P t = some ti) {f : FuncId} {fn : Func} {c : Code} {args : List AV} {av : AV} {H0 H1 : Heap} (hf : P.funcs[f]? = some fn) (hb : fn.body = some c) (hnm : (fn.name == "runtime.NumGoroutine") = false) (hn : args.length ≤ fn.ntmps)
    (h : Holds P c (PostG T fn.results.toList av (H1 ++ ancs 0 H0.length)) ⟨fn.ntmps, entA 0 args, H0 ++ ancs 0 H0.length⟩) : FnM P f args H0 av H1 := by
  refine ⟨⟨fn, hf, hnm, by rw [hb]; rfl⟩, fun C m w vals R0 => calls_of_wp hf hb (wpR_none.1 ?_)⟩
  have hsz : vals.size = args.length := R0.size
  have R : Rel C m ⟨fn.ntmps, entA 0 args, H0 ++ ancs 0 H0.length⟩ (vals ++ Array.replicate (fn.ntmps - vals.size) undef) w := by
    refine ⟨R0.laid, R0.below, R0.base, by simp; omega, R0.inj, R0.blk, R0.fro, fun t => ?_, R0.mp⟩
    have hs := R0.slot t
    by_cases ht : t < vals.size
    · rw [Array.getD_eq_getD_getElem?, Array.getElem?_append_left ht, ← Array.getD_eq_getD_getElem?]
      exact hs
    · have e : lk (entA 0 args) t = .dead := by
        rw [entA_lk, if_pos (Nat.zero_le _), List.getD_eq_getElem?_getD, List.getElem?_eq_none (by omega)]; rfl
      unfold St.get
      simp only
      rw [e]
      exact .dead _
  refine wpR_mono (h none [] _ _ { tmps := vals ++ Array.replicate (fn.ntmps - vals.size) undef, defers := [] } w R rfl) fun e a' w' ⟨s', m', h1, h2, h3⟩ => ?_
  have fini : endG T fn.results.toList av (H1 ++ ancs 0 H0.length) s' → a'.defers = [] ∧ ∃ v, (results fn a'.tmps).run P w' = .ok v w' ∧ ∃ v_1 m'', Ending.returned v = .returned v_1 ∧ Rel C m'' ⟨1, [(0, av)], H1 ++ ancs 0 H0.length⟩ #[v_1] w' := by
    intro he
    unfold endG at he
    split at he
    · rename_i p l hl
      obtain ⟨hp, π, hav, hsc, hle⟩ := he
      obtain ⟨vs, e1, e2, e3⟩ := rvsA_run hT h2 fn.results.toList hl hp
      have hv := mkTup_val (w := w') e2 e3
      have R' := h2.weaken hle
      rw [hav] at hv
      have hlen : (H1 ++ ancs 0 H0.length).length = π.length := (hle.2.2.1.get).1.symm
      have ho := OK.weaken (C := C) (m := m') (w := w') hle.2.2.1
      have hv2 := hv.unren (fun p v h => h.mono ho) hlen hsc
      refine ⟨h3, (if h : vs.toArray.size = 1 then vs.toArray[0] else .tuple vs.toArray), ?_, _, _, rfl, R'.laid, R'.below, R'.base, rfl, R'.inj, R'.blk, R'.fro, fun t => ?_, R'.mp⟩
      · rw [results_eq, Array.mapM_eq_mapM_toList]
        simp only [Sem.run_bind, Sem.run_map]
        rw [e1]
        simp only [Result.andThen_ok]
        rfl
      · cases t with
        | zero => exact hv2
        | succ t => exact .dead _
    · exact he.elim
  cases e with
  | normal => exact fini h1
  | ret => exact fini h1
  | _ => exact h1.elim

/-! ### Who calls it -/

theorem AVal.sig {rd rd' : PV → Value → Prop} {m m2 : Map} {H H2 : Heap} {σ : List Nat} (h1 : ∀ p v, rd p v → rd' p v) (hs : ∀ k, k < σ.length → σ.getD k 0 < H2.length ∧ m2 (σ.getD k 0) = m k) {x : AV} {v : Value} (h : AVal rd m H x v)
    (hx : scA σ.length x = true) : AVal rd' m2 H2 (Go.Pv.ren σ x) v := by
  have one : ∀ {x : AV} {v : Value}, AVal rd m H x v → sc1 σ.length x = true → AVal rd' m2 H2 (ren1 σ x) v := by
    intro x v h hsc
    cases h with
    | dead v => exact .dead v
    | p pv v h => exact .p pv v (h1 _ _ h)
    | sl k lo len v hk h =>
      obtain ⟨g1, g2⟩ := hs k (by simpa [sc1] using hsc)
      refine .sl _ lo len v g1 ?_
      unfold SlOk at *
      rw [g2]; exact h
    | ptr k i v hk h =>
      obtain ⟨g1, g2⟩ := hs k (by simpa [sc1] using hsc)
      refine .ptr _ i v g1 ?_
      unfold PtrOk at *
      rw [g2]; exact h
    | agg l vs hl hr => simp [sc1] at hsc
    | tup l vs hl hr => simp [sc1] at hsc
    | cl f l vs hl hr => simp [sc1] at hsc
    | itv r => exact .itv r
    | mptr k v hk h =>
      obtain ⟨g1, g2⟩ := hs k (by simpa [sc1] using hsc)
      refine .mptr _ v g1 ?_
      unfold MptrOk at *
      rw [g2]; exact h
    | yv k l vs v hk h hl hr => simp [sc1] at hsc
  cases x with
  | agg l =>
    cases h with
    | agg _ vs hl hr =>
      refine .agg _ vs (by simpa using hl) fun c hc => ?_
      rw [List.length_map] at hc
      rw [List.getElem_map]
      exact one (hr c hc) ((List.all_eq_true.1 hx) _ (List.getElem_mem hc))
  | tup l =>
    cases h with
    | tup _ vs hl hr =>
      refine .tup _ vs (by simpa using hl) fun c hc => ?_
      rw [List.length_map] at hc
      rw [List.getElem_map]
      exact one (hr c hc) ((List.all_eq_true.1 hx) _ (List.getElem_mem hc))
  | cl f l =>
    cases h with
    | cl _ _ vs hl hr =>
      refine .cl _ _ vs (by simpa using hl) fun c hc => ?_
      rw [List.length_map] at hc
      rw [List.getElem_map]
      exact one (hr c hc) ((List.all_eq_true.1 hx) _ (List.getElem_mem hc))
  | yv k l vs =>
    simp only [scA, Bool.and_eq_true, decide_eq_true_eq] at hx
    cases h with
    | yv _ _ _ _ hk h hl hr =>
      obtain ⟨g1, g2⟩ := hs k hx.1
      refine .yv _ _ vs v g1 ?_ (by simpa using hl) fun c hc => ?_
      · unfold YvOk at *
        rw [g2]; exact h
      · rw [List.length_map] at hc
        rw [List.getElem_map]
        exact one (hr c hc) ((List.all_eq_true.1 hx.2) _ (List.getElem_mem hc))
  | dead => exact one h hx
  | p pv => exact one h hx
  | sl k lo len => exact one h hx
  | ptr k i => exact one h hx
  | mptr k => exact one h hx
  | itv r => exact one h hx

/-- Blocks put back: those that were lent, in their places; new ones behind. -/
def putM : Heap → List Nat → Heap → Heap
  | H, [], bs => H ++ bs
  | H, _ :: _, [] => H
  | H, k :: ks, b :: bs => putM (hset H k b) ks bs

theorem putM_get : ∀ (ks : List Nat) (bs H : Heap) (k : Nat) (b : Blk), (∀ k ∈ ks, k < H.length) → ks.length ≤ bs.length → (putM H ks bs)[k]? = some b →
    (∃ j : Nat, bs[j]? = some b ∧ (ks ++ List.range' H.length (bs.length - ks.length))[j]? = some k) ∨ (k < H.length ∧ k ∉ ks ∧ H[k]? = some b)
  | [], bs, H, k, b, _, _, h => by
    simp only [putM] at h
    by_cases hk : k < H.length
    · exact .inr ⟨hk, by simp, by rwa [List.getElem?_append_left hk] at h⟩
    · rw [List.getElem?_append_right (by omega)] at h
      · refine .inl ⟨k - H.length, h, ?_⟩
        have := (List.getElem?_eq_some_iff.1 h).1
        simp only [List.nil_append, List.length_nil, Nat.sub_zero]
        rw [List.getElem?_range' this]
        simp; omega
  | k0 :: ks, [], H, k, b, _, hl, _ => by simp at hl
  | k0 :: ks, b0 :: bs, H, k, b, hk, hl, h => by
    simp only [putM] at h
    have h0 := hk k0 (by simp)
    rcases putM_get ks bs (hset H k0 b0) k b (fun k hk' => by rw [hset_length]; exact hk k (by simp [hk'])) (by simpa using hl) h with ⟨j, h1, h2⟩ | ⟨h1, h2, h3⟩
    · rw [hset_length] at h2
      exact .inl ⟨j + 1, by simpa using h1, by simpa using h2⟩
    · rw [hset_get] at h3
      rw [hset_length] at h1
      by_cases e : k = k0
      · subst e
        rw [if_pos ⟨rfl, h0⟩] at h3
        exact .inl ⟨0, by simpa using h3, by simp⟩
      · rw [if_neg (by simp [e])] at h3
        exact .inr ⟨h1, by simp [e, h2], h3⟩

theorem putM_length : ∀ (ks : List Nat) (bs H : Heap), ks.length ≤ bs.length → (putM H ks bs).length = H.length + (bs.length - ks.length)
  | [], bs, H, _ => by simp [putM]
  | k0 :: ks, [], H, hl => by simp at hl
  | k0 :: ks, b0 :: bs, H, hl => by
    simp only [putM]
    rw [putM_length ks bs _ (by simpa using hl), hset_length]; simp

/-- Maps stay maps. -/
def mpKeep : Heap → Heap → Bool
  | .mp _ _ _ :: r, .mp _ _ _ :: t => mpKeep r t
  | .mp _ _ _ :: _, _ => false
  | .lp _ :: r, .lp _ :: t => mpKeep r t
  | .lp _ :: _, _ => false
  | _ :: r, _ :: t => mpKeep r t
  | [], _ => true
  | _ :: _, [] => false

theorem mpKeep_get : ∀ {H0 H1 : Heap}, mpKeep H0 H1 = true → ∀ (j : Nat) (kk : IntKind) (d : Int → Bool) (v : Int → PV), H0[j]? = some (.mp kk d v) → ∃ kk' d' v', H1[j]? = some (.mp kk' d' v')
  | [], _, _, j, _, _, _, h => by simp at h
  | b :: r, [], hm, _, _, _, _, _ => by cases b <;> simp [mpKeep] at hm
  | b :: r, b' :: t, hm, 0, kk, d, v, h => by
    simp at h; subst h
    cases b' <;> simp [mpKeep] at hm
    exact ⟨_, _, _, rfl⟩
  | b :: r, b' :: t, hm, j + 1, kk, d, v, h => by
    have hm2 : mpKeep r t = true := by cases b <;> cases b' <;> simp [mpKeep] at hm <;> exact hm
    simpa using mpKeep_get hm2 j kk d v (by simpa using h)
theorem mpKeep_lp : ∀ {H0 H1 : Heap}, mpKeep H0 H1 = true → ∀ (j : Nat) (r0 : Loop), H0[j]? = some (.lp r0) → ∃ r1, H1[j]? = some (.lp r1)
  | [], _, _, j, _, h => by simp at h
  | b :: r, [], hm, _, _, _ => by cases b <;> simp [mpKeep] at hm
  | b :: r, b' :: t, hm, 0, r0, h => by
    simp at h; subst h
    cases b' <;> simp [mpKeep] at hm
    exact ⟨_, rfl⟩
  | b :: r, b' :: t, hm, j + 1, r0, h => by
    have hm2 : mpKeep r t = true := by cases b <;> cases b' <;> simp [mpKeep] at hm <;> exact hm
    simpa using mpKeep_lp hm2 j r0 (by simpa using h)

def scM (av : AV) (H0 H1 : Heap) : Bool :=
  scA H1.length av && H1.all (fun | .own c => c.all (scA H1.length) | .anc _ _ => false | _ => true) && decide (H0.length ≤ H1.length) && mpKeep H0 H1 && H0.all notAnc

/-- The frame of who is called with blocks that are lent. -/
def subC (C : Ctx) (m : Map) (H : Heap) (ks : List Nat) (H0 : Heap) (w : World) : Ctx :=
  ⟨fun b => OK C m H w b, fun b => w.heap.size ≤ b ∨ ∃ (j : Nat) (b0 : Blk) (l : Loc), H0[j]? = some b0 ∧ b0.wr = true ∧ mren m ks j = some l ∧ l.g = b, w, mren m ks⟩

theorem Rel.wrLt (R : Rel C m s tmps w) {k : Nat} {b : Blk} (hb : s.H[k]? = some b) (hw : b.wr = true) {l : Loc} (hl : m k = some l) : C.B l.g ∧ l.g < w.heap.size := by
  cases b with
  | own c =>
    rcases R.blk k c hb with ⟨_, hn⟩ | ⟨l', cur, e, a1, a2, a3, _⟩
    · rw [hl] at hn; cases hn
    · rw [hl] at a1; cases a1
      exact ⟨a2, (Array.getElem?_eq_some_iff.1 a3).1⟩
  | mp kk d v =>
    obtain ⟨l', ar, clk, vs, a1, a2, a3, _⟩ := R.mp.1 k kk d v hb
    rw [hl] at a1; cases a1
    exact ⟨a2, (Array.getElem?_eq_some_iff.1 a3).1⟩
  | lp r =>
    obtain ⟨l', a1, a2, a3⟩ := R.mp.2.2.2.1 k r hb
    rw [hl] at a1; cases a1
    exact ⟨a2, (Array.getElem?_eq_some_iff.1 a3).1⟩
  | _ => cases hw

theorem Rel.inj2 (R : Rel C m s tmps w) {k k' : Nat} {b b' : Blk} (hb : s.H[k]? = some b) (hw : b.wr = true) (hb' : s.H[k']? = some b') (hw' : b'.wr = true) {l l' : Loc} (hl : m k = some l) (hl' : m k' = some l') (e : l.g = l'.g) : k = k' := by
  cases b with
  | own c =>
    cases b' with
    | own c' => exact R.inj k k' c c' l l' hb hb' hl hl' e
    | mp kk d v => exact absurd e ((R.mpOK hb' hl').2.2 k c l hb hl)
    | lp r => exact absurd e ((R.lpOK hb' hl').2.2 k c l hb hl)
    | _ => cases hw'
  | mp kk d v =>
    cases b' with
    | own c' => exact absurd e.symm ((R.mpOK hb hl).2.2 k' c' l' hb' hl')
    | mp kk' d' v' => exact R.mp.2.1 _ _ _ _ _ _ _ _ _ _ hb hb' hl hl' e
    | lp r =>
      exfalso
      obtain ⟨l1, ar, clk, vs, a1, a2, a3, _⟩ := R.mp.1 k kk d v hb
      obtain ⟨l2, b1, b2, b3⟩ := R.mp.2.2.2.1 k' r hb'
      rw [hl] at a1; cases a1
      rw [hl'] at b1; cases b1
      rw [e, b3] at a3; cases a3
    | _ => cases hw'
  | lp r =>
    cases b' with
    | own c' => exact absurd e.symm ((R.lpOK hb hl).2.2 k' c' l' hb' hl')
    | mp kk d v =>
      exfalso
      obtain ⟨l1, ar, clk, vs, a1, a2, a3, _⟩ := R.mp.1 k' kk d v hb'
      obtain ⟨l2, b1, b2, b3⟩ := R.mp.2.2.2.1 k r hb
      rw [hl'] at a1; cases a1
      rw [hl] at b1; cases b1
      rw [e, a3] at b3; cases b3
    | lp r' => exact R.mp.2.2.2.2 _ _ _ _ _ _ hb hb' hl hl' e
    | _ => cases hw'
  | _ => cases hw

theorem LeH.wr {π : List Nat} {H H1 : Heap} (h3 : LeH π H π H1) {j : Nat} {b0 : Blk} (h : H1[j]? = some b0) (hw : b0.wr = true) : ∃ k' b, π[j]? = some k' ∧ H[k']? = some b ∧ b.wr = true ∧ ((∃ c, b0 = .own c) → ∃ c, b = .own c) ∧ ((∃ kk d v, b0 = .mp kk d v) → ∃ kk d v, b = .mp kk d v) := by
  obtain ⟨g1, g2⟩ := h3.get
  cases b0 with
  | own c =>
    obtain ⟨k', d, a1, a2, _⟩ := LeH.own g2 j c h
    exact ⟨k', _, a1, a2, rfl, (fun _ => ⟨_, rfl⟩), fun ⟨_, _, _, h⟩ => by cases h⟩
  | mp kk d v =>
    obtain ⟨k', a, b⟩ := g2 j _ h
    exact ⟨k', _, a, hget_some b (by simp), rfl, (fun ⟨_, h⟩ => by cases h), fun _ => ⟨_, _, _, rfl⟩⟩
  | lp r =>
    obtain ⟨k', a, b⟩ := g2 j _ h
    exact ⟨k', _, a, hget_some b (by simp), rfl, (fun ⟨_, h⟩ => by cases h), fun ⟨_, _, _, h⟩ => by cases h⟩
  | _ => cases hw

/-- Blocks that are gone. -/
def kills (H : Heap) : List Nat → Heap
  | [] => H
  | k :: ks => kills (hset H k .dead) ks
theorem kills_length : ∀ (ks : List Nat) (H : Heap), (kills H ks).length = H.length
  | [], H => rfl
  | k :: ks, H => by rw [kills, kills_length ks, hset_length]
theorem kills_get : ∀ (ks : List Nat) (H : Heap) {k : Nat} {b : Blk}, (kills H ks)[k]? = some b → (k ∈ ks ∧ b = .dead) ∨ (k ∉ ks ∧ H[k]? = some b)
  | [], H, k, b, h => .inr ⟨by simp, h⟩
  | k0 :: ks, H, k, b, h => by
    rcases kills_get ks _ h with ⟨h1, h2⟩ | ⟨h1, h2⟩
    · exact .inl ⟨by simp [h1], h2⟩
    · rw [hset_get] at h2
      by_cases e : k = k0 ∧ k0 < H.length
      · rw [if_pos e] at h2; exact .inl ⟨by simp [e.1], (Option.some.inj h2).symm⟩
      · rw [if_neg e] at h2
        by_cases e2 : k = k0
        · have := (List.getElem?_eq_some_iff.1 h2).1
          exact absurd ⟨e2, by omega⟩ e
        · exact .inr ⟨by simp [e2, h1], h2⟩

/-- What must be so of what comes back, where the first q blocks stay in their places. -/
def scQ (q : Nat) (av : AV) (H0 H1 : Heap) : Bool :=
  scA H1.length av && H1.all (fun | .own c => c.all (scA H1.length) | .anc _ _ => false | _ => true) && decide (q ≤ H1.length) && decide (q ≤ H0.length) && mpKeep (H0.take q) H1 && (H0.drop q).all (fun b => !b.spc) && H0.all notAnc

theorem Rel.joinQ (R : Rel C m s tmps w) {q : Nat} {ks : List Nat} {H0 H1 : Heap} {r : AV} {w' : World} {v : Value} {m' : Map} (hle : LeH ks s.H ks H0) (hks : ∀ k ∈ ks, k < s.H.length) (R1 : Rel (subC C m s.H ks H0 w) m' ⟨1, [(0, r)], H1 ++ ancs 0 q⟩ #[v] w') (hsc : scQ q r H0 H1 = true) :
    ∃ m2, Rel C m2 { s with H := putM (kills s.H (ks.drop q)) (ks.take q) (H1.map (Blk.ren (ks.take q ++ List.range' s.H.length (H1.length - q)))) } tmps w' ∧
      AVal (Reads (OK C m2 (putM (kills s.H (ks.drop q)) (ks.take q) (H1.map (Blk.ren (ks.take q ++ List.range' s.H.length (H1.length - q))))) w') w') m2 (putM (kills s.H (ks.drop q)) (ks.take q) (H1.map (Blk.ren (ks.take q ++ List.range' s.H.length (H1.length - q))))) (Go.Pv.ren (ks.take q ++ List.range' s.H.length (H1.length - q)) r) v ∧ ∀ k, k < s.H.length → m2 k = m k := by
  obtain ⟨g1, g2⟩ := hle.get
  unfold scQ at hsc
  rw [Bool.and_eq_true, Bool.and_eq_true, Bool.and_eq_true, Bool.and_eq_true, Bool.and_eq_true, Bool.and_eq_true, decide_eq_true_eq, decide_eq_true_eq] at hsc
  obtain ⟨⟨⟨⟨⟨⟨s1, s2⟩, s3⟩, s6⟩, s4⟩, s7⟩, s5⟩ := hsc
  have hn : q ≤ H1.length := s3
  have hqk : q ≤ ks.length := by omega
  have hkt : ∀ k ∈ ks.take q, k ∈ ks := fun k h => List.mem_of_mem_take h
  have htl : (ks.take q).length = q := by rw [List.length_take]; omega
  generalize hσe : ks.take q ++ List.range' s.H.length (H1.length - q) = σ
  have hσlen : σ.length = H1.length := by rw [← hσe, List.length_append, htl, List.length_range']; omega
  generalize hH2 : putM (kills s.H (ks.drop q)) (ks.take q) (H1.map (Blk.ren σ)) = H2
  have hlen2 : H2.length = s.H.length + (H1.length - q) := by rw [← hH2, putM_length _ _ _ (by rw [htl, List.length_map]; exact hn), kills_length, htl]; simp
  -- where the callee's blocks lie
  have hm1 : ∀ j, j < q → m' j = mren m ks j := fun j hj => by
    have h : (H1 ++ ancs 0 q)[H1.length + j]? = some (.anc j j) := by
      rw [List.getElem?_append_right (by omega), Nat.add_sub_cancel_left, ancs_at _ _ _ hj, Nat.zero_add]
    exact (R1.mp.2.2.1 _ _ _ h).2
  obtain ⟨m2, hm2⟩ : ∃ m2 : Map, m2 = fun k => if k < s.H.length then m k else m' (q + (k - s.H.length)) := ⟨_, rfl⟩
  have hmo : ∀ k, k < s.H.length → m2 k = m k := fun k h => by rw [hm2]; simp [h]
  have hσ : ∀ (j k : Nat), σ[j]? = some k → k < H2.length ∧ m2 k = m' j := by
    intro j k h
    rw [← hσe] at h
    by_cases hj : j < q
    · rw [List.getElem?_append_left (by omega)] at h
      rw [List.getElem?_take, if_pos hj] at h
      have hk := hks k (List.mem_of_getElem? h)
      refine ⟨by omega, ?_⟩
      rw [hmo k hk, hm1 j (by omega)]
      simp only [mren, h, Option.bind_some]
    · rw [List.getElem?_append_right (by omega), htl] at h
      have hj2 : j - q < H1.length - q := by
        have := (List.getElem?_eq_some_iff.1 h).1
        simpa using this
      rw [List.getElem?_range' hj2] at h
      simp only [Option.some.injEq, Nat.one_mul] at h
      subst h
      refine ⟨by omega, ?_⟩
      rw [hm2]
      simp only
      rw [if_neg (by omega)]
      congr 1
      omega
  have hσ2 : ∀ k, k < σ.length → σ.getD k 0 < H2.length ∧ m2 (σ.getD k 0) = m' k := fun k hk => by
    have : σ[k]? = some (σ.getD k 0) := by simp [List.getD, List.getElem?_eq_getElem hk]
    exact hσ k _ this
  have hget : ∀ (k : Nat) (b : Blk), H2[k]? = some b → (∃ (j : Nat) (b' : Blk), H1[j]? = some b' ∧ b = b'.ren σ ∧ σ[j]? = some k) ∨ (k < s.H.length ∧ k ∉ ks ∧ s.H[k]? = some b) ∨ b = .dead := by
    intro k b h
    rw [← hH2] at h
    rcases putM_get (ks.take q) _ (kills s.H (ks.drop q)) k b (fun k hk => by rw [kills_length]; exact hks k (hkt k hk)) (by rw [htl, List.length_map]; exact hn) h with ⟨j, h1, h2⟩ | ⟨h1, h2, h3⟩
    · rw [List.length_map, htl, kills_length, hσe] at h2
      rw [List.getElem?_map] at h1
      cases e : H1[j]? with
      | none => rw [e] at h1; cases h1
      | some b' => rw [e] at h1; exact .inl ⟨j, b', e, (Option.some.inj h1).symm, h2⟩
    · rcases kills_get _ _ h3 with ⟨_, e⟩ | ⟨g3, g4⟩
      · exact .inr (.inr e)
      · refine .inr (.inl ⟨by rw [kills_length] at h1; exact h1, fun hk => ?_, g4⟩)
        rw [← List.take_append_drop q ks] at hk
        rcases List.mem_append.1 hk with hk | hk
        · exact h2 hk
        · exact g3 hk
  have hHc : ∀ (j : Nat) (b : Blk), H1[j]? = some b → (H1 ++ ancs 0 q)[j]? = some b := fun j b h => by
    rw [List.getElem?_append_left (List.getElem?_eq_some_iff.1 h).1]; exact h
  have hown : ∀ (k : Nat) (c : List AV), H2[k]? = some (.own c) → (∃ (j : Nat) (c' : List AV), H1[j]? = some (.own c') ∧ c = c'.map (Go.Pv.ren σ) ∧ σ[j]? = some k) ∨ (k < s.H.length ∧ k ∉ ks ∧ s.H[k]? = some (.own c)) := by
    intro k c h
    rcases hget k _ h with ⟨j, b', h1, h2, h3⟩ | h | h
    · cases b' with
      | own c' => simp only [Blk.ren, Blk.own.injEq] at h2; exact .inl ⟨j, c', h1, h2, h3⟩
      | _ => cases h2
    · exact .inr h
    · cases h
  have hmps : ∀ (k : Nat) (kk : IntKind) (d : Int → Bool) (vv : Int → PV), H2[k]? = some (.mp kk d vv) → (∃ j : Nat, H1[j]? = some (.mp kk d vv) ∧ σ[j]? = some k) ∨ (k < s.H.length ∧ k ∉ ks ∧ s.H[k]? = some (.mp kk d vv)) := by
    intro k kk d vv h
    rcases hget k _ h with ⟨j, b', h1, h2, h3⟩ | h | h
    · cases b' with
      | mp kk' d' v' => simp only [Blk.ren, Blk.mp.injEq] at h2; obtain ⟨rfl, rfl, rfl⟩ := h2; exact .inl ⟨j, h1, h3⟩
      | _ => cases h2
    · exact .inr h
    · cases h
  have hfro : ∀ (k : Nat) (c : List PV), H2[k]? = some (.fro c) → (∃ j : Nat, H1[j]? = some (.fro c) ∧ σ[j]? = some k) ∨ (k < s.H.length ∧ k ∉ ks ∧ s.H[k]? = some (.fro c)) := by
    intro k c h
    rcases hget k _ h with ⟨j, b', h1, h2, h3⟩ | h | h
    · cases b' with
      | fro c' => simp only [Blk.ren, Blk.fro.injEq] at h2; subst h2; exact .inl ⟨j, h1, h3⟩
      | _ => cases h2
    · exact .inr h
    · cases h
  have lent : ∀ (j : Nat) (b0 : Blk) (l : Loc), H0[j]? = some b0 → b0.wr = true → mren m ks j = some l → ∃ k' b, k' ∈ ks ∧ s.H[k']? = some b ∧ b.wr = true ∧ m k' = some l ∧ ((∃ c, b0 = .own c) → ∃ c, b = .own c) ∧ ((∃ kk d v, b0 = .mp kk d v) → ∃ kk d v, b = .mp kk d v) := by
    intro j b0 l h hw hl
    obtain ⟨k', b, a1, a2, a3, a4, a5⟩ := hle.wr h hw
    simp only [mren, a1, Option.bind_some] at hl
    exact ⟨k', b, List.mem_of_getElem? a1, a2, a3, hl, a4, a5⟩
  have hB1 : ∀ b, (subC C m s.H ks H0 w).B b → C.B b := by
    intro b hb
    rcases hb with hb | ⟨j, b0, l, h1, h2, h3, rfl⟩
    · exact R.base b hb
    · obtain ⟨k', b, _, a2, a3, a4, _⟩ := lent j b0 l h1 h2 h3
      exact (R.wrLt a2 a3 a4).1
  have hBx : ∀ (k : Nat) (b : Blk) (l : Loc), k ∉ ks → s.H[k]? = some b → b.wr = true → m k = some l → ¬ (subC C m s.H ks H0 w).B l.g := by
    intro k b l hk hb hw hl hB
    rcases hB with hB | ⟨j, b0, l0, h1, h2, h3, h4⟩
    · have := (R.wrLt hb hw hl).2
      omega
    · obtain ⟨k', b', a1, a2, a3, a4, _⟩ := lent j b0 l0 h1 h2 h3
      have := R.inj2 hb hw a2 a3 hl a4 h4.symm
      subst this
      exact hk a1
  have hcell : ∀ b o x, OK C m s.H w b → w.cell? ⟨b, o, none⟩ = some x → w'.cell? ⟨b, o, none⟩ = some x := by
    intro b o x hb hc
    by_cases hB : (subC C m s.H ks H0 w).B b
    · exfalso
      rcases hB with hB | ⟨j, b0, l0, h1, h2, h3, h4⟩
      · have := hb.2.1; omega
      · obtain ⟨k', b', a1, a2, a3, a4, _⟩ := lent j b0 l0 h1 h2 h3
        cases b' with
        | own c => exact hb.2.2 k' c l0 a2 a4 h4
        | mp kk d vv =>
          obtain ⟨l', ar, clk, vs, c1, c2, c3, _⟩ := R.mp.1 k' kk d vv a2
          rw [a4] at c1; cases c1
          rw [h4] at c3
          unfold World.cell? at hc
          simp only [c3] at hc
          first | cases hc | simp at hc
        | lp rr =>
          obtain ⟨l', c1, c2, c3⟩ := R.mp.2.2.2.1 k' rr a2
          rw [a4] at c1; cases c1
          rw [h4] at c3
          unfold World.cell? at hc
          simp only [c3] at hc
          first | cases hc | simp at hc
        | _ => cases a3
    · rw [World.cell?_of_block (w := w) (R1.below.block b hB)]; exact hc
  have hOK : ∀ b, OK (subC C m s.H ks H0 w) m' (H1 ++ ancs 0 q) w' b → OK C m2 H2 w' b := by
    intro b hb
    refine ⟨?_, hb.2.1, fun k c l h hl => ?_⟩
    · rcases hb.1 with h | h
      · exact h.1
      · exact .inr (hB1 b h)
    · rcases hown k c h with ⟨j, c', h1, _, h3⟩ | ⟨h1, h2, h3⟩
      · rw [(hσ j k h3).2] at hl
        exact hb.2.2 j c' l (hHc _ _ h1) hl
      · rw [hmo k h1] at hl
        rcases hb.1 with h' | h'
        · exact h'.2.2 k c l h3 hl
        · intro e
          exact hBx k _ l h2 h3 rfl hl (by rw [e]; exact h')
  have hsp : ∀ (j : Nat) (b : Blk), H0[j]? = some b → b.spc = true → j < q := fun j b h hb => by
    refine Nat.lt_of_not_le fun hq => ?_
    have h2 : (H0.drop q)[j - q]? = some b := by rw [List.getElem?_drop, show q + (j - q) = j by omega]; exact h
    have := (List.all_eq_true.1 s7) _ (List.mem_of_getElem? h2)
    rw [hb] at this; cases this
  have ho1 : ∀ b, OK C m s.H w b → OK C m2 H2 w' b := by
    intro b hb
    refine ⟨hb.1, Nat.lt_of_lt_of_le hb.2.1 R1.below.size, fun k c l h hl e => ?_⟩
    rcases hown k c h with ⟨j, c', h1, _, h3⟩ | ⟨h1, h2, h3⟩
    · rw [(hσ j k h3).2] at hl
      rcases (R1.wrLt (hHc _ _ h1) rfl hl).1 with hB | ⟨j0, b0, l0, a1, a2, a3, a4⟩
      · have := hb.2.1; omega
      · obtain ⟨k', b', d1, d2, d3, d4, d5, d6⟩ := lent j0 b0 l0 a1 a2 a3
        cases b0 with
        | own c0 =>
          obtain ⟨c1, rfl⟩ := d5 ⟨_, rfl⟩
          exact hb.2.2 k' c1 l0 d2 d4 (by rw [a4, e])
        | mp kk d vv =>
          have hj0 := hsp j0 _ a1 rfl
          obtain ⟨kk', d', v', f1⟩ := mpKeep_get s4 j0 kk d vv (by rw [List.getElem?_take, if_pos hj0]; exact a1)
          have f2 : m' j0 = some l0 := by rw [hm1 j0 hj0]; exact a3
          exact (R1.mpOK (hHc _ _ f1) f2).2.2 j c' l (hHc _ _ h1) hl a4.symm
        | lp rr =>
          have hj0 := hsp j0 _ a1 rfl
          obtain ⟨r1, f1⟩ := mpKeep_lp s4 j0 rr (by rw [List.getElem?_take, if_pos hj0]; exact a1)
          have f2 : m' j0 = some l0 := by rw [hm1 j0 hj0]; exact a3
          exact (R1.lpOK (hHc _ _ f1) f2).2.2 j c' l (hHc _ _ h1) hl a4.symm
        | _ => cases a2
    · rw [hmo k h1] at hl
      exact hb.2.2 k c l h3 hl e
  have rd1 : ∀ p x, Reads (OK C m s.H w) w p x → Reads (OK C m2 H2 w') w' p x := fun p x h => h.extc ho1 hcell
  have rd2 : ∀ p x, Reads (OK (subC C m s.H ks H0 w) m' (H1 ++ ancs 0 q) w') w' p x → Reads (OK C m2 H2 w') w' p x := fun p x h => h.mono hOK
  have hlen3 : s.H.length ≤ H2.length := by omega
  have sall : ∀ (j : Nat) (b : Blk), H1[j]? = some b → (match b with | .own c => c.all (scA H1.length) | .anc _ _ => false | _ => true) = true := fun j b h => by
    have := (List.all_eq_true.1 s2) _ (List.mem_of_getElem? h)
    cases b <;> exact this
  refine ⟨m2, ⟨R.laid.ext rd1, R.below.trans ⟨R1.below.os, R1.below.tape, R1.below.output, R1.below.size, fun k hk => R1.below.block k fun h => hk (hB1 k h), R1.below.dr⟩, fun b h => R.base b (Nat.le_trans R1.below.size h), R.size, ?_, ?_, ?_, fun t => ?_, ?_, ?_, ?_, ?_⟩, ?_, hmo⟩
  · intro k k' c c' l l' h1 h2 h3 h4 h5
    rcases hown k c h1 with ⟨j, d, a1, _, a3⟩ | ⟨a1, a2, a3⟩ <;> rcases hown k' c' h2 with ⟨j', d', b1, _, b3⟩ | ⟨b1, b2, b3⟩
    · rw [(hσ _ _ a3).2] at h3; rw [(hσ _ _ b3).2] at h4
      have := R1.inj j j' d d' l l' (hHc _ _ a1) (hHc _ _ b1) h3 h4 h5
      subst this
      rw [a3] at b3
      exact Option.some.inj b3
    · rw [(hσ _ _ a3).2] at h3; rw [hmo _ b1] at h4
      exact absurd (by rw [← h5]; exact (R1.wrLt (hHc _ _ a1) rfl h3).1) (hBx k' _ l' b2 b3 rfl h4)
    · rw [hmo _ a1] at h3; rw [(hσ _ _ b3).2] at h4
      exact absurd (by rw [h5]; exact (R1.wrLt (hHc _ _ b1) rfl h4).1) (hBx k _ l a2 a3 rfl h3)
    · rw [hmo _ a1] at h3; rw [hmo _ b1] at h4
      exact R.inj k k' c c' l l' a3 b3 h3 h4 h5
  · intro k c h
    rcases hown k c h with ⟨j, c', a1, rfl, a3⟩ | ⟨a1, a2, a3⟩
    · rcases R1.blk j c' (hHc _ _ a1) with ⟨e, hn⟩ | ⟨l, cur, e, b1, b2, b3, b4, b5, b6, b7⟩
      · exact .inl ⟨by rw [e]; rfl, by rw [(hσ _ _ a3).2]; exact hn⟩
      · refine .inr ⟨l, cur, e, by rw [(hσ _ _ a3).2]; exact b1, hB1 _ b2, b3, b4, b5, by simpa using b6, fun i hi => ?_⟩
        rw [List.length_map] at hi
        rw [List.getElem_map]
        have hs : scA σ.length c'[i] = true := by
          rw [hσlen]
          exact (List.all_eq_true.1 (sall j _ a1)) _ (List.getElem_mem hi)
        exact (b7 i hi).sig rd2 hσ2 hs
    · refine (R.blk k c a3).ext rd1 hlen3 hmo (hmo k a1) fun l hl => R1.below.block _ (hBx k _ l a2 a3 rfl hl)
  · intro k c h
    rcases hfro k c h with ⟨j, a1, a3⟩ | ⟨a1, a2, a3⟩
    · rcases R1.fro j c (hHc _ _ a1) with ⟨e1, e2⟩ | ⟨l, vs, e1, e2, e3, e4⟩
      · exact .inl ⟨e1, by rw [(hσ _ _ a3).2]; exact e2⟩
      · exact .inr ⟨l, vs, by rw [(hσ _ _ a3).2]; exact e1, hOK _ e2, e3, fun i hi => ⟨(e4 i hi).1, rd2 _ _ (e4 i hi).2⟩⟩
    · rcases R.fro k c a3 with ⟨e1, e2⟩ | ⟨l, vs, e1, e2, e3, e4⟩
      · exact .inl ⟨e1, by rw [hmo k a1]; exact e2⟩
      · exact .inr ⟨l, vs, by rw [hmo k a1]; exact e1, ho1 _ e2, e3, fun i hi => ⟨hcell _ _ _ e2 (e4 i hi).1, rd1 _ _ (e4 i hi).2⟩⟩
  · exact (R.slot t).ext rd1 hlen3 hmo
  · intro k kk d vv h
    rcases hmps k kk d vv h with ⟨j, a1, a3⟩ | ⟨a1, a2, a3⟩
    · obtain ⟨l, ar, clk, vs, b1, b2, b3, b4, b5, b6, b7⟩ := R1.mp.1 j kk d vv (hHc _ _ a1)
      exact ⟨l, ar, clk, vs, by rw [(hσ _ _ a3).2]; exact b1, hB1 _ b2, b3, b4, b5, b6, fun z hz => rd2 _ _ (b7 z hz)⟩
    · obtain ⟨l, ar, clk, vs, b1, b2, b3, b4, b5, b6, b7⟩ := R.mp.1 k kk d vv a3
      exact ⟨l, ar, clk, vs, by rw [hmo k a1]; exact b1, b2, by rw [R1.below.block _ (hBx k _ l a2 a3 rfl b1)]; exact b3, b4, b5, b6, fun z hz => rd1 _ _ (b7 z hz)⟩
  · intro k k' kk d vv kk' d' v' l l' h1 h2 h3 h4 h5
    rcases hmps k kk d vv h1 with ⟨j, a1, a3⟩ | ⟨a1, a2, a3⟩ <;> rcases hmps k' kk' d' v' h2 with ⟨j', b1, b3⟩ | ⟨b1, b2, b3⟩
    · rw [(hσ _ _ a3).2] at h3; rw [(hσ _ _ b3).2] at h4
      have := R1.mp.2.1 _ _ _ _ _ _ _ _ _ _ (hHc _ _ a1) (hHc _ _ b1) h3 h4 h5
      subst this
      rw [a3] at b3
      exact Option.some.inj b3
    · rw [(hσ _ _ a3).2] at h3; rw [hmo _ b1] at h4
      exact absurd (by rw [← h5]; exact (R1.wrLt (hHc _ _ a1) rfl h3).1) (hBx k' _ l' b2 b3 rfl h4)
    · rw [hmo _ a1] at h3; rw [(hσ _ _ b3).2] at h4
      exact absurd (by rw [h5]; exact (R1.wrLt (hHc _ _ b1) rfl h4).1) (hBx k _ l a2 a3 rfl h3)
    · rw [hmo _ a1] at h3; rw [hmo _ b1] at h4
      exact R.mp.2.1 _ _ _ _ _ _ _ _ _ _ a3 b3 h3 h4 h5
  · intro k i j h
    rcases hget k _ h with ⟨j', b', h1, h2, _⟩ | ⟨a1, a2, a3⟩ | h
    · have := sall j' b' h1
      cases b' with
      | anc _ _ => cases this
      | _ => cases h2
    · obtain ⟨c1, c2⟩ := R.mp.2.2.1 k i j a3
      exact ⟨by simp only; omega, by rw [hmo j c1]; exact c2⟩
    · cases h
  · have hlps : ∀ (k : Nat) (r : Loop), H2[k]? = some (.lp r) → (∃ j : Nat, H1[j]? = some (.lp r) ∧ σ[j]? = some k) ∨ (k < s.H.length ∧ k ∉ ks ∧ s.H[k]? = some (.lp r)) := by
      intro k r h
      rcases hget k _ h with ⟨j, b', h1, h2, h3⟩ | h | h
      · cases b' with
        | lp r' => simp only [Blk.ren, Blk.lp.injEq] at h2; obtain rfl := h2; exact .inl ⟨j, h1, h3⟩
        | _ => cases h2
      · exact .inr h
      · cases h
    constructor
    · intro k r h
      rcases hlps k r h with ⟨j, a1, a3⟩ | ⟨a1, a2, a3⟩
      · obtain ⟨l, b1, b2, b3⟩ := R1.mp.2.2.2.1 j r (hHc _ _ a1)
        exact ⟨l, by rw [(hσ _ _ a3).2]; exact b1, hB1 _ b2, b3⟩
      · obtain ⟨l, b1, b2, b3⟩ := R.mp.2.2.2.1 k r a3
        exact ⟨l, by rw [hmo k a1]; exact b1, b2, by rw [R1.below.block _ (hBx k _ l a2 a3 rfl b1)]; exact b3⟩
    · intro k k' r r' l l' h1 h2 h3 h4 h5
      rcases hlps k r h1 with ⟨j, a1, a3⟩ | ⟨a1, a2, a3⟩ <;> rcases hlps k' r' h2 with ⟨j', b1, b3⟩ | ⟨b1, b2, b3⟩
      · rw [(hσ _ _ a3).2] at h3; rw [(hσ _ _ b3).2] at h4
        have := R1.mp.2.2.2.2 _ _ _ _ _ _ (hHc _ _ a1) (hHc _ _ b1) h3 h4 h5
        subst this
        rw [a3] at b3
        exact Option.some.inj b3
      · rw [(hσ _ _ a3).2] at h3; rw [hmo _ b1] at h4
        exact absurd (by rw [← h5]; exact (R1.wrLt (hHc _ _ a1) rfl h3).1) (hBx k' _ l' b2 b3 rfl h4)
      · rw [hmo _ a1] at h3; rw [(hσ _ _ b3).2] at h4
        exact absurd (by rw [h5]; exact (R1.wrLt (hHc _ _ b1) rfl h4).1) (hBx k _ l a2 a3 rfl h3)
      · rw [hmo _ a1] at h3; rw [hmo _ b1] at h4
        exact R.mp.2.2.2.2 _ _ _ _ _ _ a3 b3 h3 h4 h5
  · have := R1.slot 0
    exact AVal.sig rd2 hσ2 this (by rw [hσlen]; exact s1)

theorem kills_nil (H : Heap) : kills H [] = H := rfl
theorem Rel.joinM (R : Rel C m s tmps w) {ks : List Nat} {H0 H1 : Heap} {r : AV} {w' : World} {v : Value} {m' : Map} (hle : LeH ks s.H ks H0) (hks : ∀ k ∈ ks, k < s.H.length) (R1 : Rel (subC C m s.H ks H0 w) m' ⟨1, [(0, r)], H1 ++ ancs 0 H0.length⟩ #[v] w') (hsc : scM r H0 H1 = true) :
    ∃ m2, Rel C m2 { s with H := putM s.H ks (H1.map (Blk.ren (ks ++ List.range' s.H.length (H1.length - ks.length)))) } tmps w' ∧
      AVal (Reads (OK C m2 (putM s.H ks (H1.map (Blk.ren (ks ++ List.range' s.H.length (H1.length - ks.length))))) w') w') m2 (putM s.H ks (H1.map (Blk.ren (ks ++ List.range' s.H.length (H1.length - ks.length))))) (Go.Pv.ren (ks ++ List.range' s.H.length (H1.length - ks.length)) r) v := by
  have g1 := (hle.get).1
  have h := R.joinQ (q := H0.length) hle hks R1 (by
    unfold scM at hsc
    unfold scQ
    rw [Bool.and_eq_true, Bool.and_eq_true, Bool.and_eq_true, Bool.and_eq_true] at hsc
    obtain ⟨⟨⟨⟨s1, s2⟩, s3⟩, s4⟩, s5⟩ := hsc
    rw [s1, s2, s3, s5, List.take_length, s4, List.drop_length]; simp)
  rw [← g1, List.take_length, List.drop_length, kills_nil] at h
  obtain ⟨m2, h1, h2, _⟩ := h
  exact ⟨m2, h1, h2⟩

/-! ### The call -/

def argM1 (H : Heap) (ks : List Nat) (x a : AV) : Prop :=
  match a with
  | .p pv => (match peekG H x with | some (p, pv', true) => p ∧ pv' = pv | _ => False)
  | a => x = Go.Pv.ren ks a ∧ scA ks.length a = true

def argsM (H : Heap) (ks : List Nat) : List AV → List AV → Prop
  | x :: xs, a :: avs => argM1 H ks x a ∧ argsM H ks xs avs
  | [], [] => True
  | _, _ => False

theorem argsM_val (R : Rel C m s tmps w) {rd' : PV → Value → Prop} {ks : List Nat} {H0 : Heap} (h1 : ∀ p v, Reads (OK C m s.H w) w p v → rd' p v) (hl : H0.length = ks.length) : ∀ (X avs : List AV) (f : Nat → Value), argsM s.H ks X avs → (∀ i (h : i < X.length), AVal (Reads (OK C m s.H w) w) m s.H X[i] (f i)) →
    avs.length = X.length ∧ ∀ i (h : i < avs.length), AVal rd' (mren m ks) H0 avs[i] (f i)
  | [], [], f, _, _ => ⟨rfl, fun i h => by simp at h⟩
  | x :: xs, a :: avs, f, h, hv => by
    obtain ⟨k1, k2⟩ := argsM_val R h1 hl xs avs (fun i => f (i + 1)) h.2 fun i hi => by have := hv (i + 1) (by simp; omega); rwa [List.getElem_cons_succ] at this
    refine ⟨by simp [k1], fun i hi => ?_⟩
    cases i with
    | succ i => simpa using k2 i (by simpa using hi)
    | zero =>
      have hx := hv 0 (by simp)
      simp only [List.getElem_cons_zero] at hx ⊢
      have h0 := h.1
      unfold argM1 at h0
      split at h0
      · rename_i pv
        split at h0
        · rename_i p pv' hp
          obtain ⟨g1, rfl⟩ := h0
          exact .p _ _ (h1 _ _ ((peekG_val R hx hp g1).2 rfl))
        · exact h0.elim
      · obtain ⟨rfl, hsc⟩ := h0
        exact hx.unren h1 hl hsc
  | [], _ :: _, _, h, _ => h.elim
  | _ :: _, [], _, h, _ => h.elim

theorem call_doesM {o : Oper} {fo : Operand} {args : Array Operand} {ts : Array TypeId} (ho : o.op = .call { callee := .value fo, args := args, argTypes := ts }) {g : FuncId} {cap : List PV} (hfo : s.ev fo = .p (.fn g cap)) {ks : List Nat} {avs : List AV} {H0 H1 : Heap} {r : AV}
    (hc : FnM P g avs H0 r H1) (hargs : argsM s.H ks (args.toList.map s.ev ++ cap.map .p) avs) (hle : LeH ks s.H ks H0) (hnd : ks.Nodup) (hks : ks.all (fun k => decide (k < s.H.length)) = true) (hsc : scM r H0 H1 = true) :
    DoesW P o s (Go.Pv.ren (ks ++ List.range' s.H.length (H1.length - ks.length)) r) (putM s.H ks (H1.map (Blk.ren (ks ++ List.range' s.H.length (H1.length - ks.length))))) := by
  intro C m a w K Q R hK
  have hks' : ∀ k ∈ ks, k < s.H.length := fun k hk => by simpa using (List.all_eq_true.1 hks) k hk
  have hfv := R.ev fo
  rw [hfo] at hfv
  generalize hfe : a.eval fo = fv at hfv
  have hfv := hfv.p_inv
  cases hfv with
  | fn _ _ vs hcl hcr =>
    obtain ⟨⟨fn, hfn, hnm, hbd⟩, hcalls⟩ := hc
    have hrun : (execOp a.eval o).run P w = .ok (.enter g (args.map a.eval ++ vs)) w := by
      have hnm' : ¬ fn.name = "runtime.NumGoroutine" := by simpa using hnm
      have hbd' : ¬ fn.body = none := by intro e; rw [e] at hbd; simp at hbd
      simp [execOp, ho, resolve, hfe, Deferred.ofValue, invoke, callFunc, hfn, hnm', hbd']
    refine opR_of_wp (by first | rfl | (rw [ho]; rfl)) ?_
    unfold Oper.wp
    rw [hrun]
    simp only [Oper.upon]
    obtain ⟨g1, g2⟩ := hle.get
    have ho1 : ∀ b, OK C m s.H w b → OK (subC C m s.H ks H0 w) (mren m ks) H0 w b := by
      refine fun b h => ⟨.inl h, h.2.1, fun k c l hk hl => ?_⟩
      obtain ⟨k', d, a1, a2, _⟩ := LeH.own g2 k c hk
      simp only [mren, a1, Option.bind_some] at hl
      exact h.2.2 k' _ l a2 hl
    obtain ⟨e1, e2⟩ := argsM_val R (rd' := Reads (OK (subC C m s.H ks H0 w) (mren m ks) H0 w) w) (H0 := H0) (fun p v h => h.mono ho1) g1.symm _ avs (fun i => (args.map a.eval ++ vs).getD i undef) hargs fun i hi => by
      simp only [List.length_append, List.length_map, Array.length_toList] at hi
      by_cases hip : i < args.size
      · rw [List.getElem_append_left (by simpa using hip)]
        simp only [Array.getD_eq_getD_getElem?]
        rw [Array.getElem?_append_left (by simpa using hip)]
        have := R.ev args[i]
        simpa [Array.getElem?_eq_getElem hip] using this
      · rw [List.getElem_append_right (by simp; omega)]
        simp only [Array.getD_eq_getD_getElem?]
        rw [Array.getElem?_append_right (by simp; omega)]
        simp only [List.getElem_map, List.length_map, Array.length_toList, Array.size_map]
        have := hcr (i - args.size) (by omega)
        rw [Array.getD_eq_getD_getElem?] at this
        exact .p _ _ this
    have hsz : (args.map a.eval ++ vs).size = avs.length := by
      rw [e1]; simp; omega
    have s5 : H0.all notAnc = true := by
      unfold scM at hsc
      rw [Bool.and_eq_true] at hsc
      exact hsc.2
    have R0 : Rel (subC C m s.H ks H0 w) (mren m ks) ⟨avs.length, entA 0 avs, H0⟩ (args.map a.eval ++ vs) w := by
      refine R.weakenC (s1 := ⟨avs.length, entA 0 avs, H0⟩) hsz hnd hle ho1 (BelowP.refl _ _) (fun b h => .inl h) (fun k b l h hw hl _ => .inr ⟨k, b, l, h, hw, hl, rfl⟩) (fun k i j h => ?_) fun t => ?_
      · exact absurd rfl (notAnc_spec ((List.all_eq_true.1 s5) _ (List.mem_of_getElem? h)) i j)
      · unfold St.get
        simp only
        rw [entA_lk, if_pos (Nat.zero_le _), Nat.sub_zero]
        by_cases ht : t < avs.length
        · have := e2 t ht
          simpa [List.getD, List.getElem?_eq_getElem ht] using this
        · rw [List.getD_eq_getElem?_getD, List.getElem?_eq_none (by omega)]
          exact .dead _
    have R0' := R0.addAnc (n := H0.length) (Nat.le_refl _) fun i _ => rfl
    refine (hcalls _ _ w _ R0').mono fun e w' ⟨v, m', he, R1⟩ => ?_
    subst he
    obtain ⟨m2, R2, hv⟩ := R.joinM hle hks' R1 hsc
    exact hK v m2 w' R2 hv

/-- THE WORD OF THE WALK: a call that is lent blocks. -/
theorem runs_callM {all : Array Oper} {rest : List Oper} {K : St → Prop} {dst : Option Tmp} {ty : TypeId} {pos : String} {aft : Array Edge} {gd : Option (Nat × Bool)} {fo : Operand} {args : Array Operand} {ts : Array TypeId} {g : FuncId} {avs : List AV} {H0 H1 : Heap} {r : AV} (ks : List Nat)
    (hc : FnM P g avs H0 r H1) {cap : List PV} (hfo : s.ev fo = .p (.fn g cap)) (hg : guardA all s { dst := dst, op := .call { callee := .value fo, args := args, argTypes := ts }, type := ty, pos := pos, after := aft, guard := gd } = some true)
    (hargs : argsM s.H ks (args.toList.map s.ev ++ cap.map .p) avs) (hle : LeH ks s.H ks H0) (hnd : ks.Nodup) (hks : ks.all (fun k => decide (k < s.H.length)) = true) (hsc : scM r H0 H1 = true) (hd : dstOk s dst)
    (h : Runs P false all rest K (({ s with H := putM s.H ks (H1.map (Blk.ren (ks ++ List.range' s.H.length (H1.length - ks.length)))) } : St).put dst (Go.Pv.ren (ks ++ List.range' s.H.length (H1.length - ks.length)) r))) :
    Runs P false all ({ dst := dst, op := .call { callee := .value fo, args := args, argTypes := ts }, type := ty, pos := pos, after := aft, guard := gd } :: rest) K s := by
  obtain ⟨s', hr, hK⟩ := h
  exact ⟨s', .cons (.op s _ _ hg (dstOk_spec hd) (call_doesM rfl hfo hc hargs hle hnd hks hsc) fun h => by cases h) hr, hK⟩

/-! ### How much stands in a map -/

end

end Go.Pv

/-
  Steps of a region beside those that are evaluated: literal rows as one's own, entries of literal maps. Conditions: none; a library text.
-/
set_option linter.all false

namespace Go.Pv
open Go.RowKit
section
variable {P : Program} {T : TypeId → Option TI} {s : St}
/-- A literal row, as a block of the call's own. -/
theorem buildOwn_does (hT : ∀ t ti, T t = some ti → tiOf P t = some ti) {o : Oper} {t : TypeId} {n : Nat} {parts : Array (Nat × Operand)} (ho : o.op = .buildSlice t n parts) {ti te : TI} (ht : T t = some ti) {e : TypeId} (hk : ti.kind = .slice e) (hte : T e = some te) (hsz : te.size = 1) (hzl : te.zero.length = 1)
    {p : Prop} {l : List PV} (hp : partsA 1 0 (parts.toList.map fun q => (q.1, s.ev q.2)) = some (p, l)) (hvc : p) (hl : l.length = n) (hn : n ≤ 16777216) (hone : l.all PV.one = true) : DoesW P o s (.sl s.H.length 0 n) (s.H ++ [.own (opl l)]) := by
  intro C m a w K Q R hK
  have hu := ti_slice (hT _ _ ht) hk
  obtain ⟨i, d, z, h1, h2, h3, h4, h5, h6, h7, h8⟩ := tiOf_parts (hT _ _ hte)
  have key : ∀ z0 : Array Value, ∃ cs', (∀ x ∈ l, x.cells.length = 1) ∧ Instr.fill (fun i => some (i * 1, 1)) ((Array.range (n * 1)).map (z0[· % z0.size]!)) (parts.toList.map fun q => (q.1, a.eval q.2)) = some cs' ∧ cs'.size = n * 1 ∧
      ∀ c (h : c < (flat l).length), Reads (OK C m s.H w) w (flat l)[c] (cs'.getD c undef) := by
    intro z0
    obtain ⟨k1, cs', k2, k3, _, k5⟩ := partsA_run R 1 parts.toList 0 (cs := (Array.range (n * 1)).map (z0[· % z0.size]!)) hp hvc (by simp [hl])
    exact ⟨cs', k1, k2, by rw [k3]; simp, fun c hc => by have := k5 c hc; rwa [Nat.zero_mul, Nat.zero_add] at this⟩
  obtain ⟨cs', k1, k2, k3, k5⟩ := key (if n * 1 = 0 then #[] else z.cells)
  have hss := ti_size (hT _ _ hte) w
  rw [hsz] at hss
  have hfl0 := flat_length_eq 1 l k1
  have hfl : flat l = l := flat_all_one hone
  have hrun : (execOp a.eval o).run P w = .ok (.value (.slice (some ⟨w.heap.size, 0, none⟩) n n)) (w.alloc (.cells cs' e)) := by
    have hpt : (parts.map fun q => (q.1, a.eval q.2)).toList = parts.toList.map fun q => (q.1, a.eval q.2) := by simp
    have hne : ¬ (n * 1 > 2 ^ 24) := by omega
    by_cases hz : n * 1 = 0
    · rw [if_pos hz] at k2
      simp only [execOp, ho, Instr.buildSlice, Sem.run_bind, run_underlying hu, Result.andThen_ok, hss, Sem.run_ite, hz, if_true, Sem.run_pure, newRow] at k2 ⊢
      simp only [hpt, k2, Sem.run_bind, run_newObj, Result.andThen_ok, Sem.run_pure]
      rfl
    · rw [if_neg hz] at k2
      simp only [execOp, ho, Instr.buildSlice, Sem.run_bind, run_underlying hu, Result.andThen_ok, hss, Sem.run_ite, hne, if_false, hz, zeroValue, typeInfo, run_program, h1, h3, Sem.run_pure, newRow] at k2 ⊢
      simp only [hpt, k2, Sem.run_bind, run_newObj, Result.andThen_ok, Sem.run_pure]
      rfl
  have hrel := R.newBlk (below_alloc _) (cur := cs') (e := e) (heap_alloc_new w _) (by rw [k3]; unfold maxLen; omega) (c := opl l) (by rw [opl_length, k3]; omega) (by
    intro j hj
    rw [opl_length] at hj
    have := k5 j (by rw [hfl]; exact hj)
    simp only [hfl] at this
    simp only [opl, List.getElem_map]
    exact .p _ _ this)
  refine opR_of_wp (by first | rfl | (rw [ho]; rfl)) ?_
  unfold Oper.wp
  rw [hrun]
  exact hK _ _ _ hrel (.sl _ _ _ _ (by simp) <| .inr ⟨⟨w.heap.size, 0, cs'.size⟩, n, by simp [mput], by simp, Nat.le_refl _, by simp only; omega⟩)

section
variable {C : Ctx} {m : Map} {tmps : Array Value} {w : World}
theorem call_doesMc {o : Oper} {fo : Operand} {args : Array Operand} {ts : Array TypeId} (ho : o.op = .call { callee := .value fo, args := args, argTypes := ts }) {g : FuncId} {cap : List AV} (hfo : s.ev fo = .cl g cap) {ks : List Nat} {avs : List AV} {H0 H1 : Heap} {r : AV}
    (hc : FnM P g avs H0 r H1) (hargs : argsM s.H ks (args.toList.map s.ev ++ cap) avs) (hle : LeH ks s.H ks H0) (hnd : ks.Nodup) (hks : ks.all (fun k => decide (k < s.H.length)) = true) (hsc : scM r H0 H1 = true) :
    DoesW P o s (Go.Pv.ren (ks ++ List.range' s.H.length (H1.length - ks.length)) r) (putM s.H ks (H1.map (Blk.ren (ks ++ List.range' s.H.length (H1.length - ks.length))))) := by
  intro C m a w K Q R hK
  have hks' : ∀ k ∈ ks, k < s.H.length := fun k hk => by simpa using (List.all_eq_true.1 hks) k hk
  have hfv := R.ev fo
  rw [hfo] at hfv
  generalize hfe : a.eval fo = fv at hfv
  cases hfv with
  | cl _ _ vs hcl hcr =>
    obtain ⟨⟨fn, hfn, hnm, hbd⟩, hcalls⟩ := hc
    have hrun : (execOp a.eval o).run P w = .ok (.enter g (args.map a.eval ++ vs)) w := by
      have hnm' : ¬ fn.name = "runtime.NumGoroutine" := by simpa using hnm
      have hbd' : ¬ fn.body = none := by intro e; rw [e] at hbd; simp at hbd
      simp [execOp, ho, resolve, hfe, Deferred.ofValue, invoke, callFunc, hfn, hnm', hbd']
    refine opR_of_wp (by first | rfl | (rw [ho]; rfl)) ?_
    unfold Oper.wp
    rw [hrun]
    simp only [Oper.upon]
    obtain ⟨g1, g2⟩ := hle.get
    have ho1 : ∀ b, OK C m s.H w b → OK (subC C m s.H ks H0 w) (mren m ks) H0 w b := by
      refine fun b h => ⟨.inl h, h.2.1, fun k c l hk hl => ?_⟩
      obtain ⟨k', d, a1, a2, _⟩ := LeH.own g2 k c hk
      simp only [mren, a1, Option.bind_some] at hl
      exact h.2.2 k' _ l a2 hl
    obtain ⟨e1, e2⟩ := argsM_val R (rd' := Reads (OK (subC C m s.H ks H0 w) (mren m ks) H0 w) w) (H0 := H0) (fun p v h => h.mono ho1) g1.symm _ avs (fun i => (args.map a.eval ++ vs).getD i undef) hargs fun i hi => by
      simp only [List.length_append, List.length_map, Array.length_toList] at hi
      by_cases hip : i < args.size
      · rw [List.getElem_append_left (by simpa using hip)]
        simp only [Array.getD_eq_getD_getElem?]
        rw [Array.getElem?_append_left (by simpa using hip)]
        have := R.ev args[i]
        simpa [Array.getElem?_eq_getElem hip] using this
      · rw [List.getElem_append_right (by simp; omega)]
        simp only [Array.getD_eq_getD_getElem?]
        rw [Array.getElem?_append_right (by simp; omega)]
        simp only [List.length_map, Array.length_toList, Array.size_map]
        have := hcr (i - args.size) (by omega)
        rw [Array.getD_eq_getD_getElem?] at this
        exact this
    have hsz : (args.map a.eval ++ vs).size = avs.length := by
      rw [e1]; simp; omega
    have s5 : H0.all notAnc = true := by
      unfold scM at hsc
      rw [Bool.and_eq_true] at hsc
      exact hsc.2
    have R0 : Rel (subC C m s.H ks H0 w) (mren m ks) ⟨avs.length, entA 0 avs, H0⟩ (args.map a.eval ++ vs) w := by
      refine R.weakenC (s1 := ⟨avs.length, entA 0 avs, H0⟩) hsz hnd hle ho1 (BelowP.refl _ _) (fun b h => .inl h) (fun k b l h hw hl _ => .inr ⟨k, b, l, h, hw, hl, rfl⟩) (fun k i j h => ?_) fun t => ?_
      · exact absurd rfl (notAnc_spec ((List.all_eq_true.1 s5) _ (List.mem_of_getElem? h)) i j)
      · unfold St.get
        simp only
        rw [entA_lk, if_pos (Nat.zero_le _), Nat.sub_zero]
        by_cases ht : t < avs.length
        · have := e2 t ht
          simpa [List.getD, List.getElem?_eq_getElem ht] using this
        · rw [List.getD_eq_getElem?_getD, List.getElem?_eq_none (by omega)]
          exact .dead _
    have R0' := R0.addAnc (n := H0.length) (Nat.le_refl _) fun i _ => rfl
    refine (hcalls _ _ w _ R0').mono fun e w' ⟨v, m', he, R1⟩ => ?_
    subst he
    obtain ⟨m2, R2, hv⟩ := R.joinM hle hks' R1 hsc
    exact hK v m2 w' R2 hv

/-- THE WORD OF THE WALK: a call of a function with captured values that is lent blocks. -/
theorem runs_callMc {all : Array Oper} {rest : List Oper} {K : St → Prop} {dst : Option Tmp} {ty : TypeId} {pos : String} {aft : Array Edge} {gd : Option (Nat × Bool)} {fo : Operand} {args : Array Operand} {ts : Array TypeId} {g : FuncId} {avs : List AV} {H0 H1 : Heap} {r : AV} (ks : List Nat)
    (hc : FnM P g avs H0 r H1) {cap : List AV} (hfo : s.ev fo = .cl g cap) (hg : guardA all s { dst := dst, op := .call { callee := .value fo, args := args, argTypes := ts }, type := ty, pos := pos, after := aft, guard := gd } = some true)
    (hargs : argsM s.H ks (args.toList.map s.ev ++ cap) avs) (hle : LeH ks s.H ks H0) (hnd : ks.Nodup) (hks : ks.all (fun k => decide (k < s.H.length)) = true) (hsc : scM r H0 H1 = true) (hd : dstOk s dst)
    (h : Runs P false all rest K (({ s with H := putM s.H ks (H1.map (Blk.ren (ks ++ List.range' s.H.length (H1.length - ks.length)))) } : St).put dst (Go.Pv.ren (ks ++ List.range' s.H.length (H1.length - ks.length)) r))) :
    Runs P false all ({ dst := dst, op := .call { callee := .value fo, args := args, argTypes := ts }, type := ty, pos := pos, after := aft, guard := gd } :: rest) K s := by
  obtain ⟨s', hr, hK⟩ := h
  exact ⟨s', .cons (.op s _ _ hg (dstOk_spec hd) (call_doesMc rfl hfo hc hargs hle hnd hks hsc) fun h => by cases h) hr, hK⟩

end
end
/-- A function with captured values, of whatever make. -/
theorem mkCl_does {P : Program} {s : St} {o : Oper} {f : FuncId} {first : Array Operand} {caps : Array Operand} (ho : o.op = .makeFunc (.func f) first caps) (hf : first.isEmpty = true) : DoesW P o s (.cl f (caps.toList.map s.ev)) s.H := by
  intro C m a w K Q R hK
  have hfe : first = #[] := by simpa using hf
  have hrun : (execOp a.eval o).run P w = .ok (.value (.func (.func f) #[] (caps.map a.eval))) w := by
    simp [execOp, ho, hfe, Instr.makeFunc]
  refine opR_of_wp (by first | rfl | (rw [ho]; rfl)) ?_
  unfold Oper.wp
  rw [hrun]
  refine hK _ m w R (.cl _ _ _ (by simp) fun c hc => ?_)
  have hc' : c < caps.size := by simpa using hc
  have e1 : (caps.map a.eval).getD c undef = a.eval caps[c] := by simp [Array.getD_eq_getD_getElem?, hc']
  have e2 : (caps.toList.map s.ev)[c] = s.ev caps[c] := by simp
  rw [e1, e2]
  exact R.ev _
end Go.Pv

/-
  The library's sort by a comparison, over a row of the caller's own: what it leaves. Conditions: none; a library text.
-/
set_option linter.all false
namespace Go.Pv
open Go.RowKit

theorem below_grow {w w' : World} (h : Below w.heap.size w w') : ∃ q os, w' = Go.Sort.grow (w.drewN q) os := by
  refine ⟨w'.drawn - w.drawn, w'.heap.extract w.heap.size w'.heap.size, ?_⟩
  obtain ⟨h1, h2, h3, h4, h5, h6⟩ := h
  cases w with
  | mk heap tape drawn os output =>
    cases w' with
    | mk heap' tape' drawn' os' output' =>
      simp only at h1 h2 h3 h4 h5 h6
      subst h1 h2 h3
      have hh : heap' = heap ++ heap'.extract heap.size heap'.size := by
        apply Array.ext_getElem?
        intro k
        by_cases hk : k < heap.size
        · rw [Array.getElem?_append_left hk]; exact h5 k hk
        · rw [Array.getElem?_append_right (by omega), Array.getElem?_extract]
          by_cases hk2 : k < heap'.size
          · rw [if_pos (by simp; omega), show heap.size + (k - heap.size) = k by omega]
          · rw [if_neg (by simp; omega), Array.getElem?_eq_none (by omega)]
      have hd : drawn' = drawn + (drawn' - drawn) := by omega
      show World.mk heap' tape' drawn' os' output' = World.mk (heap ++ heap'.extract heap.size heap'.size) tape' (drawn + (drawn' - drawn)) os' output'
      rw [← hh, ← hd]

theorem below_sortWorld {α : Type} [Inhabited α] (enc : α → Value) (w : World) (blk off m : Nat) (dk : Array α) (os : Array Obj) : ∀ b, b ≠ blk → b < w.heap.size → (Go.Proofs.sortWorld enc w blk off m dk os).heap[b]? = w.heap[b]? := by
  intro b hb hs
  unfold Go.Proofs.sortWorld
  rw [Go.Sort.heap_grow_old _ _ (by simpa using hs)]
  simp only [Go.Sort.putRow, Go.Sort.mapBlock, Array.getElem?_modify]
  rw [if_neg (Ne.symm hb)]
  rfl

theorem perm_sorted_unique {lt : PV → PV → Prop} : ∀ (xs ys : List PV), xs.Perm ys → (∀ x ∈ xs, ∀ y ∈ xs, ¬ lt x y → ¬ lt y x → x = y) → xs.Pairwise (fun x y => ¬ lt y x) → ys.Pairwise (fun x y => ¬ lt y x) → xs = ys
  | [], ys, h, _, _, _ => by simpa using h.symm.eq_nil.symm
  | x :: r, [], h, _, _, _ => by simpa using h.eq_nil
  | x :: r, y :: s, h, ha, h1, h2 => by
    have hxy : x = y := by
      have hx : x ∈ y :: s := h.mem_iff.1 (by simp)
      have hy : y ∈ x :: r := h.mem_iff.2 (by simp)
      rcases List.mem_cons.1 hx with hx | hx
      · exact hx
      · rcases List.mem_cons.1 hy with hy' | hy'
        · exact hy'.symm
        · have a1 := (List.pairwise_cons.1 h1).1 y hy'
          have a2 := (List.pairwise_cons.1 h2).1 x hx
          exact ha x (by simp) y hy a2 a1
    subst hxy
    rw [perm_sorted_unique r s (List.Perm.cons_inv h) (fun a ha' b hb' => ha a (by simp [ha']) b (by simp [hb'])) (List.pairwise_cons.1 h1).2 (List.pairwise_cons.1 h2).2]

section
variable {P : Program} {ρ : Go.Shelf.Ren}

/-- slices.SortFunc: a row of the caller's own; a pure comparison that parts whatever two things; behind it the row holds the one list that rises. -/
theorem sort_m (L : Go.Proofs.SlLaysF.n6 P ρ) {g : FuncId} {cap : List PV} (xs ys : List PV) (cf : PV → PV → Int) (hne : xs ≠ []) (hone : ∀ x ∈ xs, x.one = true)
    (irr : ∀ x ∈ xs, ¬ cf x x < 0) (tr : ∀ x ∈ xs, ∀ y ∈ xs, ∀ z ∈ xs, cf x y < 0 → cf y z < 0 → cf x z < 0) (ntr : ∀ x ∈ xs, ∀ y ∈ xs, ∀ z ∈ xs, ¬ cf x y < 0 → ¬ cf y z < 0 → ¬ cf x z < 0)
    (anti : ∀ x ∈ xs, ∀ y ∈ xs, ¬ cf x y < 0 → ¬ cf y x < 0 → x = y) (hc : ∀ x ∈ xs, ∀ y ∈ xs, FnC P g (x :: y :: cap) (.int .i64 (cf x y)))
    (hperm : xs.Perm ys) (hs : ys.Pairwise fun x y => ¬ cf y x < 0) (hlen : xs.length < 4611686018427387904) :
    FnM P (ρ.f 6) [.sl 0 0 xs.length, .p (.fn g cap)] [.own (opl xs)] (.p (.tup [])) [.own (opl ys)] := by
  have hpos : 0 < xs.length := List.length_pos_iff.2 hne
  refine ⟨?_, fun C m w vals R => ?_⟩
  · obtain ⟨nm, h1, h2⟩ := L.f6
    exact ⟨_, h2, h1, rfl⟩
  have hsz : vals.size = 2 := R.size
  have s0 := R.slot 0
  have s1 := R.slot 1
  simp only [St.get, entA, lk, BEq.rfl, cond_true, show ((0 : Nat) == 1) = false from rfl, cond_false] at s0 s1
  generalize hv0 : vals.getD 0 undef = v0 at s0
  generalize hv1 : vals.getD 1 undef = v1 at s1
  have hvals : vals = #[v0, v1] := by
    apply Array.ext
    · simpa using hsz
    · intro i h1 h2
      simp only [Array.getD_eq_getD_getElem?] at hv0 hv1
      match i, h2 with
      | 0, _ => rw [Array.getElem?_eq_getElem h1] at hv0; simpa using hv0
      | 1, _ => rw [Array.getElem?_eq_getElem h1] at hv1; simpa using hv1
  subst hvals
  have s1 := s1.p_inv
  cases s1 with
  | fn _ _ vs hcl hcr =>
  cases s0 with
  | sl _ _ _ _ hk0 h0 =>
  rcases h0 with ⟨h0, _⟩ | ⟨l, cp, hm, rfl, hle, hlo⟩
  · omega
  rcases R.blk 0 (opl xs) rfl with ⟨hx, _⟩ | ⟨l', cur, e, hm', hB, hg, hcs, hmx, hol, hcell⟩
  · exact absurd (show xs = [] by simpa [opl] using hx) hne
  rw [hm] at hm'; cases hm'
  rw [opl_length] at hol
  generalize hok : OK C m ([.own (opl xs)] ++ ancs 0 [Blk.own (opl xs)].length) w = ok at *
  have hokne : ∀ b, ok b → b ≠ l.g := fun b hb => by
    subst hok
    exact fun e => hb.2.2 0 _ l rfl hm e.symm
  have hoklt : ∀ b, ok b → b < w.heap.size := fun b hb => by subst hok; exact hb.2.1
  have hblk : l.g < w.heap.size := (Array.getElem?_eq_some_iff.1 hg).1
  have hrd : ∀ j (h : j < xs.length), Reads ok w xs[j] (cur.getD (l.o + j) undef) := fun j h => by
    have := hcell j (by rw [opl_length]; exact h)
    simp only [opl, List.getElem_map] at this
    subst hok
    exact this.p_inv
  let α := {p : PV × Value // p.1 ∈ xs ∧ Reads ok w p.1 p.2}
  have inh : α := ⟨(xs[0], cur.getD (l.o + 0) undef), List.getElem_mem hpos, hrd 0 hpos⟩
  letI : Inhabited α := ⟨inh⟩
  let enc : α → Value := fun x => x.1.2
  let cf' : α → α → Int := fun x y => cf x.1.1 y.1.1
  let d : Array α := Array.ofFn fun j : Fin xs.length => (⟨(xs[j], cur.getD (l.o + j) undef), List.getElem_mem j.2, hrd j j.2⟩ : α)
  have hd : d.size = xs.length := by simp [d]
  have hdj : ∀ j (h : j < xs.length), d[j]! = (⟨(xs[j], cur.getD (l.o + j) undef), List.getElem_mem h, hrd j h⟩ : α) := fun j h => by
    rw [getElem!_pos d j (by omega)]
    simp [d]
  have h1 : Go.Proofs.OneCell enc := fun x => (Reads.one x.2.2 (hone _ x.2.1)).1
  have hO : Go.Sort.SWO (Go.Proofs.ltOf cf') := by
    refine ⟨fun x => ?_, fun x y z h1 h2 => ?_, fun x y z h1 h2 => ?_⟩
    · exact decide_eq_false (irr _ x.2.1)
    · exact decide_eq_true (tr _ x.2.1 _ y.2.1 _ z.2.1 (of_decide_eq_true h1) (of_decide_eq_true h2))
    · exact decide_eq_false (ntr _ x.2.1 _ y.2.1 _ z.2.1 (of_decide_eq_false h1) (of_decide_eq_false h2))
  have hH : Go.Sort.Holds enc w l.g (l.o + 0) d := fun j hj => by
    rw [hd] at hj
    have hjc : l.o + j < cur.size := by omega
    refine ⟨?_, ?_⟩
    · rw [hdj j hj]
      show w.cell? ⟨l.g, l.o + 0 + j, none⟩ = some (cur.getD (l.o + j) undef)
      simp only [World.cell?, hg, Nat.add_zero]
      simp [Array.getD_eq_getD_getElem?, Array.getElem?_eq_getElem hjc]
    · simp [World.frozen?, hg]
  have eg : ∀ args w, (callFunc g args).run P w = .ok (.enter g args) w := by
    obtain ⟨fn, f1, f2, f3⟩ := (hc _ (List.getElem_mem hpos) _ (List.getElem_mem hpos)).1
    obtain ⟨c, hcb⟩ := Option.ne_none_iff_exists'.1 (show fn.body ≠ none by intro e; rw [e] at f3; simp at f3)
    exact Go.Proofs.enters_of f1 f2 hcb
  have hcmp : Go.Proofs.CmpLays1 P g vs enc cf' l.g (l.o + 0) d.size w := fun m1 os dk hs x y => by
    have hheap : ∀ b, ok b → (Go.Proofs.sortWorld enc w l.g (l.o + 0) m1 dk os).heap[b]? = w.heap[b]? := fun b hb => below_sortWorld enc w l.g _ m1 dk os b (hokne b hb) (hoklt b hb)
    have hsw : w.heap.size ≤ (Go.Proofs.sortWorld enc w l.g (l.o + 0) m1 dk os).heap.size := by simp [Go.Proofs.sortWorld]
    refine ((hc _ x.2.1 _ y.2.1).2 ok _ (#[enc x, enc y] ++ vs) ⟨fun b hb => Nat.lt_of_lt_of_le (hoklt b hb) hsw, fun gg ll hgg => ?_⟩ (by simp [hcl]; omega) fun i hi => ?_).mono fun e' w2 ⟨v, he, hbl, hv⟩ => ?_
    · have := R.laid gg ll hgg
      rw [hok] at this
      exact this.ext (fun _ h => h) hheap
    · match i, hi with
      | 0, _ =>
        have e0 : (#[enc x, enc y] ++ vs).getD 0 undef = enc x := by simp [Array.getD_eq_getD_getElem?, Array.getElem?_append]
        rw [e0]
        exact x.2.2.ext (fun _ h => h) hheap
      | 1, _ =>
        have e0 : (#[enc x, enc y] ++ vs).getD 1 undef = enc y := by simp [Array.getD_eq_getD_getElem?, Array.getElem?_append]
        rw [e0]
        exact y.2.2.ext (fun _ h => h) hheap
      | i + 2, hi =>
        have hi' : i < cap.length := by simpa using hi
        have e2 : (#[enc x, enc y] ++ vs).getD (i + 2) undef = vs.getD i undef := by
          simp only [Array.getD_eq_getD_getElem?]
          rw [Array.getElem?_append_right (by simp)]
          simp
        rw [e2]
        exact (hcr i hi').ext (fun _ h => h) hheap
    · subst he
      cases hv
      exact ⟨rfl, below_grow hbl⟩
  have hcall := Go.Proofs.Any.slices_SortFunc L enc h1 cf' hO g vs l.g (l.o + 0) cp d w eg hcmp hH hblk (by omega)
  rw [hd] at hcall
  refine hcall.mono fun e2 w2 ⟨he, d', n, os, hp, hso, hw⟩ => ?_
  subst he
  refine ⟨.tuple #[], m, rfl, ?_⟩
  have hs' : d'.size = xs.length := by rw [hp.1, hd]
  have hdl : d.toList.map (fun x => x.1.1) = xs := by
    apply List.ext_getElem
    · simp [d]
    · intro i h1 h2
      simp [d]
  have hperm2 : (d'.toList.map fun x => x.1.1).Perm xs := by
    have := hp.2.2
    rw [← hd, Array.extract_size] at this
    have h3 : d'.extract 0 d.size = d' := by rw [hd, ← hs', Array.extract_size]
    rw [h3] at this
    have h4 := this.map (fun x : α => x.1.1)
    rwa [hdl] at h4
  have hys : d'.toList.map (fun x => x.1.1) = ys := by
    refine perm_sorted_unique (lt := fun x y => cf x y < 0) _ _ (hperm2.trans hperm) (fun x hx y hy => anti x (hperm2.mem_iff.1 hx) y (hperm2.mem_iff.1 hy)) ?_ hs
    rw [List.pairwise_iff_getElem]
    intro i j hi hj hij
    simp only [List.length_map, Array.length_toList] at hi hj
    have := hso i j (Nat.zero_le _) hij (by omega)
    rw [getElem!_pos d' i hi, getElem!_pos d' j hj] at this
    simpa using of_decide_eq_false this
  have hyl : ys.length = xs.length := hperm.length_eq.symm
  -- the row as it stands behind the sort
  have R1 : Rel C m ⟨2, entA 0 [.sl 0 0 xs.length, .p (.fn g cap)], hset ([.own (opl xs)] ++ ancs 0 [Blk.own (opl xs)].length) 0 (.own (opl ys))⟩ #[.slice (some ⟨l.g, l.o + 0, none⟩) xs.length cp, .func (.func g) #[] vs] (Go.Sort.putRow enc (Go.Sort.ahead w n) l.g (l.o + 0) d') := by
    refine R.setBlk (a := { tmps := #[.slice (some ⟨l.g, l.o + 0, none⟩) xs.length cp, .func (.func g) #[] vs], defers := [] }) (c := opl xs) rfl hm ⟨rfl, rfl, rfl, by simp, fun k hk => ?_, by simp⟩ (fun b hb => ?_) (cur := Go.Sort.putCells enc (l.o + 0) d' cur) (e := e) ?_ (by simp [Go.Sort.putCells, hcs]) (by rw [opl_length]; omega) fun j hj => ?_
    · simp only [Go.Sort.putRow, Go.Sort.mapBlock, Array.getElem?_modify]
      rw [if_neg (fun e => hk (by rw [← e]; exact hB))]; rfl
    · simp only [Go.Sort.putRow, Go.Sort.mapBlock, Array.getElem?_modify]
      rw [if_neg (Ne.symm hb)]; rfl
    · simp only [Go.Sort.putRow, Go.Sort.mapBlock, Array.getElem?_modify]
      rw [if_pos trivial]
      show Option.map _ (w.heap[l.g]?) = _
      rw [hg]; rfl
    · rw [opl_length] at hj
      have hjd : j < d'.size := by omega
      have hjc : l.o + j < cur.size := by omega
      have e3 : (Go.Sort.putCells enc (l.o + 0) d' cur).getD (l.o + j) undef = enc d'[j] := by
        simp only [Go.Sort.putCells, Array.getD_eq_getD_getElem?, Array.getElem?_mapIdx, Array.getElem?_eq_getElem hjc, Option.map_some, Option.getD_some]
        rw [if_pos ⟨by omega, by omega⟩, show l.o + j - (l.o + 0) = j by omega, getElem!_pos d' j hjd]
      rw [e3]
      have e4 : ys[j] = d'[j].1.1 := by
        have := hys
        subst this
        simp
      have e5 : (opl ys)[j]'(by rw [opl_length]; exact hj) = .p ys[j] := by simp [opl]
      rw [e5, e4]
      have h6 := d'[j].2.2
      refine .p _ _ ?_
      show Reads (OK C m ([.own (opl xs)] ++ ancs 0 [Blk.own (opl xs)].length) w) w _ _
      rw [hok]
      exact h6
  have R2 := R1.later (w' := w2) (by
    rw [hw]
    refine ⟨rfl, rfl, rfl, by simp [Go.Proofs.sortWorld], fun k hk => ?_, Nat.le_refl _⟩
    unfold Go.Proofs.sortWorld
    exact Go.Sort.heap_grow_old _ _ hk)
  exact ⟨R2.laid, R2.below, R2.base, rfl, R2.inj, R2.blk, R2.fro, fun t => by
    cases t with
    | zero => exact .p _ _ (.tup [] #[] rfl fun c h => absurd h (by simp))
    | succ t => exact .dead _, R2.mp⟩

end
end Go.Pv

/-
  Contracts of the library, laid at this dump: numbers, and that each body is the same. Conditions: none; written by a program of this repo out of the kit's own tool.
-/
set_option linter.all false
namespace Go.Proofs
open Go.Shelf
def Try.sortL_ren : Go.Shelf.Ren := ⟨fun | 6 => 44 | 15 => 66 | 14 => 65 | 28 => 80 | 29 => 81 | 20 => 72 | 21 => 73 | 22 => 74 | 23 => 75 | 24 => 76 | 25 => 77 | 26 => 78 | 27 => 79 | 46 => 83 | 47 => 84 | 48 => 85 | 49 => 86 | 50 => 87 | 57 => 88 | n => n, fun | 22 => 33 | 24 => 22 | 25 => 71 | 3 => 3 | 39 => 83 | 0 => 0 | 53 => 95 | 55 => 97 | 4 => 4 | 46 => 88 | 45 => 87 | 50 => 92 | 5 => 5 | 9 => 9 | 66 => 98 | 70 => 102 | 76 => 104 | 77 => 105 | n => n, fun | n => n⟩
theorem Try.sortL : Go.Proofs.SlLaysF.n6 Try.prog Try.sortL_ren := {
  mixed := by kernel_rfl
  f6 := ⟨Try.f44.name, by decide, Try.func44.trans (congrArg some (by kernel_rfl))⟩
  f14 := ⟨Try.f65.name, by decide, Try.func65.trans (congrArg some (by kernel_rfl))⟩
  f15 := Try.func66.trans (congrArg some (by kernel_rfl))
  f20 := ⟨Try.f72.name, by decide, Try.func72.trans (congrArg some (by kernel_rfl))⟩
  f21 := ⟨Try.f73.name, by decide, Try.func73.trans (congrArg some (by kernel_rfl))⟩
  f22 := ⟨Try.f74.name, by decide, Try.func74.trans (congrArg some (by kernel_rfl))⟩
  f23 := ⟨Try.f75.name, by decide, Try.func75.trans (congrArg some (by kernel_rfl))⟩
  f24 := ⟨Try.f76.name, by decide, Try.func76.trans (congrArg some (by kernel_rfl))⟩
  f25 := ⟨Try.f77.name, by decide, Try.func77.trans (congrArg some (by kernel_rfl))⟩
  f26 := ⟨Try.f78.name, by decide, Try.func78.trans (congrArg some (by kernel_rfl))⟩
  f27 := ⟨Try.f79.name, by decide, Try.func79.trans (congrArg some (by kernel_rfl))⟩
  f28 := Try.func80.trans (congrArg some (by kernel_rfl))
  f29 := Try.func81.trans (congrArg some (by kernel_rfl))
  f46 := ⟨Try.f83.name, by decide, Try.func83.trans (congrArg some (by kernel_rfl))⟩
  f47 := Try.func84.trans (congrArg some (by kernel_rfl))
  f48 := Try.func85.trans (congrArg some (by kernel_rfl))
  f49 := ⟨Try.f86.name, by decide, Try.func86.trans (congrArg some (by kernel_rfl))⟩
  f50 := ⟨Try.f87.name, by decide, Try.func87.trans (congrArg some (by kernel_rfl))⟩
  f57 := ⟨Try.f88.name, by decide, Try.func88.trans (congrArg some (by kernel_rfl))⟩
  t0 := Try.underlying0
  a0 := Try.isAgg0
  z0 := Try.sizeOf0
  v0 := Try.zeroValue0
  t3 := Try.underlying3
  a3 := Try.isAgg3
  z3 := Try.sizeOf3
  v3 := Try.zeroValue3
  t4 := Try.underlying4
  a4 := Try.isAgg4
  z4 := Try.sizeOf4
  v4 := Try.zeroValue4
  t5 := Try.underlying5
  a5 := Try.isAgg5
  z5 := Try.sizeOf5
  v5 := Try.zeroValue5
  t9 := Try.underlying9
  a9 := Try.isAgg9
  z9 := Try.sizeOf9
  v9 := Try.zeroValue9
  t22 := Try.underlying33
  a22 := Try.isAgg33
  z22 := Try.sizeOf33
  v22 := Try.zeroValue33
  a24 := Try.isAgg22
  z24 := Try.sizeOf22
  t25 := Try.underlying71
  a25 := Try.isAgg71
  z25 := Try.sizeOf71
  v25 := Try.zeroValue71
  t39 := Try.underlying83
  a39 := Try.isAgg83
  z39 := Try.sizeOf83
  v39 := Try.zeroValue83
  t45 := Try.underlying87
  a45 := Try.isAgg87
  z45 := Try.sizeOf87
  v45 := Try.zeroValue87
  t46 := Try.underlying88
  a46 := Try.isAgg88
  z46 := Try.sizeOf88
  v46 := Try.zeroValue88
  t50 := Try.underlying92
  a50 := Try.isAgg92
  z50 := Try.sizeOf92
  v50 := Try.zeroValue92
  t53 := Try.underlying95
  a53 := Try.isAgg95
  z53 := Try.sizeOf95
  v53 := Try.zeroValue95
  t55 := Try.underlying97
  a55 := Try.isAgg97
  z55 := Try.sizeOf97
  v55 := Try.zeroValue97
  t66 := Try.underlying98
  a66 := Try.isAgg98
  z66 := Try.sizeOf98
  v66 := Try.zeroValue98
  t70 := Try.underlying102
  a70 := Try.isAgg102
  z70 := Try.sizeOf102
  v70 := Try.zeroValue102
  t76 := Try.underlying104
  a76 := Try.isAgg104
  z76 := Try.sizeOf104
  v76 := Try.zeroValue104
  t77 := Try.underlying105
  a77 := Try.isAgg105
  z77 := Try.sizeOf105
  v77 := Try.zeroValue105 }
end Go.Proofs

/-
  Rows of whole numbers, in order (for seats without sets). Conditions: none.
-/
set_option linter.all false
namespace Go.Proofs.Ytboadfahlflmhaa
open Go.Pv

/-! ### Lists, compared -/

def cmpi (x y : Int) : Int := if x < y then -1 else if y < x then 1 else 0
def cmpL : List Int → List Int → Int
  | [], [] => 0
  | [], _ :: _ => -1
  | _ :: _, [] => 1
  | x :: v, y :: w => if cmpi x y = 0 then cmpL v w else cmpi x y
theorem isNaN_c (x : Int) : FnC Try.prog 82 [.int .i64 x] (.bool false) := by
  refine fnc_of tab_ok Try.func82 rfl (by kernel_rfl) (by rw [Try.ntmps82]; exact Nat.le_add_left 1 _) ?_; rw [Try.ntmps82]
  refine qm ?_
  refine hk_region fun K hK => runs_eval tab_ok ?_
  simp only [ev0, evA, evB, evP, fl, gp, tab, simprocAttr, reduceCtorEq, reduceIte]
  refine fin_run trivial (hK _ ?_) <;> clear hK <;> clear K
  refine qa (qm ?_)
  refine hk_region fun K hK => runs_eval tab_ok ?_
  simp only [ev0, evA, evB, evP, fl, gp, tab, simprocAttr, reduceCtorEq, reduceIte]
  refine fin_run trivial (hK _ ?_) <;> clear hK <;> clear K
  refine qa (qk ?_)
  simp only [Try.results82, enA, ev0, evA, evB, evP, fl, gp, tab, simprocAttr, reduceCtorEq, reduceIte]
  all_goals ((first | exact rfl | exact ⟨rfl, rfl⟩ | exact ⟨rfl, rfl, rfl⟩ | exact ⟨trivial, rfl⟩ | exact ⟨Nat.le_refl _, rfl⟩ | trivial | (simp; done)))
theorem compare_c (x y : Int) : FnC Try.prog 67 [.int .i64 x, .int .i64 y] (.int .i64 (cmpi x y)) := by
  refine fnc_of tab_ok Try.func67 rfl (by kernel_rfl) (by rw [Try.ntmps67]; exact Nat.le_add_left 2 _) ?_; rw [Try.ntmps67]
  refine qm ?_
  refine hk_region fun K hK => runs_eval tab_ok ?_
  simp only [ev0, evA, evB, evP, fl, gp, tab, simprocAttr, reduceCtorEq, reduceIte]
  refine fin_run trivial (hK _ ?_) <;> clear hK <;> clear K
  refine qa (qm ?_)
  refine hk_region fun K hK => runs_eval tab_ok ?_
  simp only [ev0, evA, evB, evP, fl, gp, tab, simprocAttr, reduceCtorEq, reduceIte]
  refine fin_stop trivial (runs_call (isNaN_c x) rfl rfl rfl (by simp only [dstOk, Nat.reduceLT]) (by repeat (first | exact trivial | constructor)) (runs_eval tab_ok ?_))
  simp only [ev0, evA, evB, evP, fl, gp, tab, simprocAttr, reduceCtorEq, reduceIte]
  refine fin_run trivial (hK _ ?_) <;> clear hK <;> clear K
  refine qa (qm ?_)
  refine hk_region fun K hK => runs_eval tab_ok ?_
  simp only [ev0, evA, evB, evP, fl, gp, tab, simprocAttr, reduceCtorEq, reduceIte]
  refine fin_stop trivial (runs_call (isNaN_c y) rfl rfl rfl (by simp only [dstOk, Nat.reduceLT]) (by repeat (first | exact trivial | constructor)) (runs_eval tab_ok ?_))
  simp only [ev0, evA, evB, evP, fl, gp, tab, simprocAttr, reduceCtorEq, reduceIte]
  refine fin_run trivial (hK _ ?_) <;> clear hK <;> clear K
  refine qa (qm (qm ?_))
  refine hk_region fun K hK => runs_eval tab_ok ?_
  simp only [ev0, evA, evB, evP, fl, gp, tab, simprocAttr, reduceCtorEq, reduceIte]
  refine fin_run trivial (hK _ ?_) <;> clear hK <;> clear K
  refine qa ?_
  refine hk_cond rfl (fun hC1 => ?_) (fun hC1 => ?_)
  · cases hC1
  · (try simp only [nhs] at hC1)
    refine qh (qa (qm (qm ?_)))
    refine hk_region fun K hK => runs_eval tab_ok ?_
    simp only [ev0, evA, evB, evP, fl, gp, tab, simprocAttr, reduceCtorEq, reduceIte]
    refine fin_run trivial (hK _ ?_) <;> clear hK <;> clear K
    refine qa ?_
    refine hk_cond rfl (fun hC3 => ?_) (fun hC3 => ?_)
    · cases hC3
    · (try simp only [nhs] at hC3)
      refine qh (qa (qm (qm ?_)))
      refine hk_region fun K hK => runs_eval tab_ok ?_
      simp only [ev0, evA, evB, evP, fl, gp, tab, simprocAttr, reduceCtorEq, reduceIte]
      refine fin_run trivial (hK _ ?_) <;> clear hK <;> clear K
      refine qa ?_
      refine hk_cond rfl (fun hC4 => ?_) (fun hC4 => ?_)
      · (try simp only [nhs] at hC4)
        refine qm ?_
        refine hk_region fun K hK => runs_eval tab_ok ?_
        simp only [ev0, evA, evB, evP, fl, gp, tab, simprocAttr, reduceCtorEq, reduceIte]
        refine fin_run trivial (hK _ ?_) <;> clear hK <;> clear K
        refine qa (qk (qb ?_))
        simp only [Try.results67, enA, ev0, evA, evB, evP, fl, gp, tab, simprocAttr, reduceCtorEq, reduceIte]
        all_goals (unfold cmpi; rw [if_pos hC4])
      · (try simp only [nhs] at hC4)
        refine qh (qa (qm (qm ?_)))
        refine hk_region fun K hK => runs_eval tab_ok ?_
        simp only [ev0, evA, evB, evP, fl, gp, tab, simprocAttr, reduceCtorEq, reduceIte]
        refine fin_run trivial (hK _ ?_) <;> clear hK <;> clear K
        refine qa ?_
        refine hk_cond rfl (fun hC5 => ?_) (fun hC5 => ?_)
        · (try simp only [nhs] at hC5)
          refine qm ?_
          refine hk_region fun K hK => runs_eval tab_ok ?_
          simp only [ev0, evA, evB, evP, fl, gp, tab, simprocAttr, reduceCtorEq, reduceIte]
          refine fin_run trivial (hK _ ?_) <;> clear hK <;> clear K
          refine qa (qk (qb ?_))
          simp only [Try.results67, enA, ev0, evA, evB, evP, fl, gp, tab, simprocAttr, reduceCtorEq, reduceIte]
          all_goals (unfold cmpi; rw [if_neg hC4, if_pos hC5])
        · (try simp only [nhs] at hC5)
          refine qh (qa (qm ?_))
          refine hk_region fun K hK => runs_eval tab_ok ?_
          simp only [ev0, evA, evB, evP, fl, gp, tab, simprocAttr, reduceCtorEq, reduceIte]
          refine fin_run trivial (hK _ ?_) <;> clear hK <;> clear K
          refine qa (qk ?_)
          simp only [Try.results67, enA, ev0, evA, evB, evP, fl, gp, tab, simprocAttr, reduceCtorEq, reduceIte]
          all_goals (unfold cmpi; rw [if_neg hC4, if_neg hC5])
theorem cmpL_drop {v w : List Int} : ∀ {i : Nat}, (∀ j, j < i → j < v.length → j < w.length ∧ cmpi (v.getD j 0) (w.getD j 0) = 0) → i ≤ v.length → cmpL v w = cmpL (v.drop i) (w.drop i)
  | 0, _, _ => rfl
  | i + 1, h, hi => by
    cases v with
    | nil => simp at hi
    | cons x v =>
      cases w with
      | nil => have := (h 0 (by omega) (by simp)).1; simp at this
      | cons y w =>
        have h0 := (h 0 (by omega) (by simp)).2
        simp at h0
        have ih := cmpL_drop (v := v) (w := w) (i := i) (fun j hj hjv => by
          have := h (j + 1) (by omega) (by simpa using hjv)
          simpa using this) (by simpa using hi)
        simp only [List.drop_succ_cons]
        rw [← ih]
        show (if cmpi x y = 0 then cmpL v w else cmpi x y) = _
        rw [if_pos h0]
theorem drop_getD {v : List Int} {i : Nat} (h : i < v.length) : v.drop i = v.getD i 0 :: v.drop (i + 1) := by
  rw [List.drop_eq_getElem_cons h]
  congr 1
  simp [List.getD, List.getElem?_eq_getElem h]
theorem compareL_c (v w : List Int) (hv : v.length ≤ 1000000000) (hw : w.length ≤ 1000000000) : FnC Try.prog 45 [.list (il v), .list (il w)] (.int .i64 (cmpL v w)) := by
  refine fnc_of tab_ok Try.func45 rfl (by kernel_rfl) (by rw [Try.ntmps45]; exact Nat.le_add_left 2 _) ?_; rw [Try.ntmps45]
  refine qm ?_
  refine hk_region fun K hK => runs_eval tab_ok ?_
  simp only [ev0, evA, evB, evP, fl, gp, tab, simprocAttr, reduceCtorEq, reduceIte]
  refine fin_run trivial (hK _ ?_) <;> clear hK <;> clear K
  refine qa (qm (qm ?_))
  refine hk_region fun K hK => runs_eval tab_ok ?_
  simp only [ev0, evA, evB, evP, fl, gp, tab, simprocAttr, reduceCtorEq, reduceIte, il_length]
  refine fin_run trivial (hK _ ?_) <;> clear hK <;> clear K
  refine qa (ql ?_)
  refine hk_loop (ι := Nat) (fun i => ⟨36, [(0, .p (.list (il v))), (1, .p (.list (il w))), (9, .p (.list (il v))), (10, .p (.int .i64 v.length)), (11, .p (.int .i64 i))], []⟩) (fun i => i ≤ v.length ∧ ∀ j, j < i → j < v.length → j < w.length ∧ cmpi (v.getD j 0) (w.getD j 0) = 0) (fun i => v.length - i) 0 ⟨Nat.zero_le _, fun j hj => by omega⟩ [] (by simp only [leq, leA, ev0, evA, evB, evP, fl, gp, tab, simprocAttr, reduceCtorEq, reduceIte] <;> trivial) fun i hi => ?_
  obtain ⟨hi1, hi2⟩ := hi
  have hd := cmpL_drop hi2 hi1
  refine qm ?_
  refine hk_region fun K hK => runs_eval tab_ok ?_
  simp only [ev0, evA, evB, evP, fl, gp, tab, simprocAttr, reduceCtorEq, reduceIte]
  refine fin_run trivial (hK _ ?_) <;> clear hK <;> clear K
  refine qa (qm ?_)
  refine hk_cond rfl (fun hC1 => ?_) (fun hC1 => ?_)
  · (try simp only [nhs] at hC1)
    have hlt : i < v.length := by omega
    have hdv := drop_getD hlt
    refine qh (qa (qm (ql (qm ?_))))
    refine hk_region fun K hK => runs_eval tab_ok ?_
    simp only [ev0, evA, evB, evP, fl, gp, tab, simprocAttr, reduceCtorEq, reduceIte, il_get hlt]
    refine fin_run ?_ (hK _ ?_) <;> clear hK <;> clear K
    · (first | exact trivial | omega | (simp only [In64] at *; omega) | (simp [In64] at *; omega) | (simp_all; done) | skip)
    refine qa (qm (qm ?_))
    refine hk_region fun K hK => runs_eval tab_ok ?_
    simp only [ev0, evA, evB, evP, fl, gp, tab, simprocAttr, reduceCtorEq, reduceIte, il_length]
    refine fin_run trivial (hK _ ?_) <;> clear hK <;> clear K
    refine qa ?_
    refine hk_cond rfl (fun hC2 => ?_) (fun hC2 => ?_)
    · (try simp only [nhs] at hC2)
      refine qm ?_
      refine hk_region fun K hK => runs_eval tab_ok ?_
      simp only [ev0, evA, evB, evP, fl, gp, tab, simprocAttr, reduceCtorEq, reduceIte]
      refine fin_run trivial (hK _ ?_) <;> clear hK <;> clear K
      refine qa (qk (qb (qe (qb (qb (qe (qb ?_)))))))
      simp only [Try.results45, enA, ev0, evA, evB, evP, fl, gp, tab, simprocAttr, reduceCtorEq, reduceIte]
      have hdw : w.drop i = [] := List.drop_eq_nil_of_le (by omega)
      rw [hd, hdv, hdw]; rfl
    · (try simp only [nhs] at hC2)
      have hlw : i < w.length := by omega
      have hdw := drop_getD hlw
      refine qh (qa (qm ?_))
      refine hk_region fun K hK => runs_eval tab_ok ?_
      simp only [ev0, evA, evB, evP, fl, gp, tab, simprocAttr, reduceCtorEq, reduceIte, il_get hlw]
      refine fin_run ?_ (hK _ ?_) <;> clear hK <;> clear K
      · (first | exact trivial | omega | (simp only [In64] at *; omega) | (simp [In64] at *; omega) | (simp_all; done) | skip)
      refine qa (qm ?_)
      refine hk_region fun K hK => runs_eval tab_ok ?_
      simp only [ev0, evA, evB, evP, fl, gp, tab, simprocAttr, reduceCtorEq, reduceIte]
      refine fin_stop trivial (runs_call (compare_c (v.getD i 0) (w.getD i 0)) rfl rfl rfl (by simp only [dstOk, Nat.reduceLT]) (by repeat (first | exact trivial | constructor)) (runs_eval tab_ok ?_))
      simp only [ev0, evA, evB, evP, fl, gp, tab, simprocAttr, reduceCtorEq, reduceIte]
      refine fin_run trivial (hK _ ?_) <;> clear hK <;> clear K
      refine qa (qm ?_)
      refine hk_region fun K hK => runs_eval tab_ok ?_
      simp only [ev0, evA, evB, evP, fl, gp, tab, simprocAttr, reduceCtorEq, reduceIte]
      refine fin_run trivial (hK _ ?_) <;> clear hK <;> clear K
      refine qa ?_
      refine hk_cond rfl (fun hC3 => ?_) (fun hC3 => ?_)
      · (try simp only [nhs] at hC3)
        refine qm ?_
        refine hk_region fun K hK => runs_eval tab_ok ?_
        simp only [ev0, evA, evB, evP, fl, gp, tab, simprocAttr, reduceCtorEq, reduceIte]
        refine fin_run trivial (hK _ ?_) <;> clear hK <;> clear K
        refine qa (qk (qe (qb (qb (qe (qb ?_))))))
        simp only [Try.results45, enA, ev0, evA, evB, evP, fl, gp, tab, simprocAttr, reduceCtorEq, reduceIte]
        rw [hd, hdv, hdw]
        show _ = if _ then _ else _
        rw [if_neg hC3]
      · (try simp only [nhs] at hC3)
        refine qh (qd (qa ?_))
        refine hk_region fun K hK => runs_eval tab_ok ?_
        simp only [ev0, evA, evB, evP, fl, gp, tab, simprocAttr, reduceCtorEq, reduceIte]
        refine fin_run ?_ (hK _ ?_) <;> clear hK <;> clear K
        · (first | exact trivial | omega | (simp only [In64] at *; omega) | (simp [In64] at *; omega) | (simp_all; done) | skip)
        refine qa ?_
        refine ⟨i + 1, [], ⟨by omega, fun j hj hjv => ?_⟩, by omega, ?_⟩
        · by_cases hji : j = i
          · rw [hji]; exact ⟨hlw, by simpa using hC3⟩
          · exact hi2 j (by omega) hjv
        · simp only [leq, leA, ev0, evA, evB, evP, fl, gp, tab, simprocAttr, reduceCtorEq, reduceIte] <;> omega
  · (try simp only [nhs] at hC1)
    have hin : i = v.length := by omega
    have hdv : v.drop i = [] := List.drop_eq_nil_of_le (by omega)
    refine qj (qc (qc (qf (qa (qm (qm ?_))))))
    refine hk_region fun K hK => runs_eval tab_ok ?_
    simp only [ev0, evA, evB, evP, fl, gp, tab, simprocAttr, reduceCtorEq, reduceIte, il_length]
    refine fin_run trivial (hK _ ?_) <;> clear hK <;> clear K
    refine qa ?_
    refine hk_cond rfl (fun hC4 => ?_) (fun hC4 => ?_)
    · (try simp only [nhs] at hC4)
      refine qm ?_
      refine hk_region fun K hK => runs_eval tab_ok ?_
      simp only [ev0, evA, evB, evP, fl, gp, tab, simprocAttr, reduceCtorEq, reduceIte]
      refine fin_run trivial (hK _ ?_) <;> clear hK <;> clear K
      refine qa (qk (qb ?_))
      simp only [Try.results45, enA, ev0, evA, evB, evP, fl, gp, tab, simprocAttr, reduceCtorEq, reduceIte]
      all_goals (rw [hd, hdv, drop_getD (v := w) (i := i) (by omega)]; rfl)
    · (try simp only [nhs] at hC4)
      refine qh (qa (qm ?_))
      refine hk_region fun K hK => runs_eval tab_ok ?_
      simp only [ev0, evA, evB, evP, fl, gp, tab, simprocAttr, reduceCtorEq, reduceIte]
      refine fin_run trivial (hK _ ?_) <;> clear hK <;> clear K
      refine qa (qk ?_)
      simp only [Try.results45, enA, ev0, evA, evB, evP, fl, gp, tab, simprocAttr, reduceCtorEq, reduceIte]
      have hdw : w.drop i = [] := by
        refine List.drop_eq_nil_of_le ?_
        omega
      rw [hd, hdv, hdw]; rfl

/-! ### An order -/

theorem cmpi_lt {x y : Int} : cmpi x y < 0 ↔ x < y := by
  unfold cmpi
  by_cases h1 : x < y
  · simp [h1]
  · by_cases h2 : y < x <;> simp [h1, h2]
theorem cmpi_eq {x y : Int} : cmpi x y = 0 ↔ x = y := by
  unfold cmpi
  by_cases h1 : x < y
  · simp [h1]; omega
  · by_cases h2 : y < x
    · simp [h1, h2]; omega
    · simp [h1, h2]; omega
theorem cmpL_self : ∀ v : List Int, cmpL v v = 0
  | [] => rfl
  | x :: v => by show (if cmpi x x = 0 then cmpL v v else cmpi x x) = 0; rw [if_pos (cmpi_eq.2 rfl)]; exact cmpL_self v
theorem cmpL_cons_lt {x y : Int} {v w : List Int} : cmpL (x :: v) (y :: w) < 0 ↔ x < y ∨ x = y ∧ cmpL v w < 0 := by
  show (if cmpi x y = 0 then cmpL v w else cmpi x y) < 0 ↔ _
  by_cases h : cmpi x y = 0
  · rw [if_pos h]
    have := cmpi_eq.1 h
    constructor
    · exact fun h2 => .inr ⟨this, h2⟩
    · rintro (h2 | h2)
      · omega
      · exact h2.2
  · rw [if_neg h, cmpi_lt]
    have : ¬ x = y := fun e => h (cmpi_eq.2 e)
    constructor
    · exact fun h2 => .inl h2
    · rintro (h2 | h2)
      · exact h2
      · exact absurd h2.1 this
theorem cmpL_tot : ∀ v w : List Int, ¬ cmpL v w < 0 → ¬ cmpL w v < 0 → v = w
  | [], [], _, _ => rfl
  | [], _ :: _, h, _ => absurd (show (-1 : Int) < 0 by omega) h
  | _ :: _, [], _, h => absurd (show (-1 : Int) < 0 by omega) h
  | x :: v, y :: w, h1, h2 => by
    rw [cmpL_cons_lt] at h1 h2
    have hxy : x = y := by omega
    subst hxy
    rw [cmpL_tot v w (fun h => h1 (.inr ⟨rfl, h⟩)) (fun h => h2 (.inr ⟨rfl, h⟩))]
theorem cmpL_trans : ∀ u v w : List Int, cmpL u v < 0 → cmpL v w < 0 → cmpL u w < 0
  | [], [], _, h, _ => absurd h (by simp [cmpL])
  | [], _ :: _, [], _, h => absurd h (by simp [cmpL])
  | [], _ :: _, _ :: _, _, _ => by simp [cmpL]
  | _ :: _, [], _, h, _ => absurd h (by simp [cmpL])
  | _ :: _, _ :: _, [], _, h => absurd h (by simp [cmpL])
  | x :: u, y :: v, z :: w, h1, h2 => by
    rw [cmpL_cons_lt] at h1 h2 ⊢
    rcases h1 with h1 | ⟨rfl, h1⟩
    · rcases h2 with h2 | ⟨rfl, h2⟩
      · exact .inl (by omega)
      · exact .inl h1
    · rcases h2 with h2 | ⟨rfl, h2⟩
      · exact .inl h2
      · exact .inr ⟨rfl, cmpL_trans u v w h1 h2⟩
theorem cmpL_ntrans (u v w : List Int) (h1 : ¬ cmpL u v < 0) (h2 : ¬ cmpL v w < 0) : ¬ cmpL u w < 0 := fun h => by
  by_cases h3 : cmpL v u < 0
  · exact h2 (cmpL_trans _ _ _ h3 h)
  · rw [cmpL_tot _ _ h1 h3] at h; exact h2 h

def pvi : PV → Int
  | .int _ x => x
  | _ => 0
theorem pvi_il (v : List Int) : (il v).map pvi = v := by
  unfold il
  rw [List.map_map]
  exact (List.map_congr_left fun _ _ => rfl).trans (List.map_id v)
def cfL : PV → PV → Int
  | .list a, .list b => cmpL (a.map pvi) (b.map pvi)
  | _, _ => 0
theorem cfL_il (v w : List Int) : cfL (.list (il v)) (.list (il w)) = cmpL v w := by
  show cmpL ((il v).map pvi) ((il w).map pvi) = _
  rw [pvi_il, pvi_il]
theorem mem_ll {x : PV} {ls : List (List Int)} (h : x ∈ ll ls) : ∃ v ∈ ls, x = .list (il v) := by
  obtain ⟨v, hv, rfl⟩ := List.mem_map.1 h
  exact ⟨v, hv, rfl⟩
theorem sortLw_c {xs ys : List (List Int)} (hne : xs ≠ []) (hl : xs.length ≤ 1000000) (hr : ∀ v ∈ xs, v.length ≤ 1000000) (hperm : xs.Perm ys) (hs : ys.Pairwise fun v w => ¬ cmpL w v < 0) :
    FnM Try.prog 44 [.sl 0 0 (ll xs).length, .p (.fn 45 [])] [.own (opl (ll xs))] (.p (.tup [])) [.own (opl (ll ys))] :=
  sort_m Go.Proofs.Try.sortL (ll xs) (ll ys) cfL (fun h => hne (by cases xs with
      | nil => rfl
      | cons a r => cases h)) (fun x hx => by obtain ⟨v, _, rfl⟩ := mem_ll hx; rfl)
    (fun x hx => by obtain ⟨v, _, rfl⟩ := mem_ll hx; rw [cfL_il, cmpL_self]; decide)
    (fun x hx y hy z hz h1 h2 => by
      obtain ⟨u, _, rfl⟩ := mem_ll hx; obtain ⟨v, _, rfl⟩ := mem_ll hy; obtain ⟨w, _, rfl⟩ := mem_ll hz
      rw [cfL_il] at *; exact cmpL_trans _ _ _ h1 h2)
    (fun x hx y hy z hz h1 h2 => by
      obtain ⟨u, _, rfl⟩ := mem_ll hx; obtain ⟨v, _, rfl⟩ := mem_ll hy; obtain ⟨w, _, rfl⟩ := mem_ll hz
      rw [cfL_il] at *; exact cmpL_ntrans _ _ _ h1 h2)
    (fun x hx y hy h1 h2 => by
      obtain ⟨u, _, rfl⟩ := mem_ll hx; obtain ⟨v, _, rfl⟩ := mem_ll hy
      rw [cfL_il] at *; rw [cmpL_tot _ _ h1 h2])
    (fun x hx y hy => by
      obtain ⟨u, hu, rfl⟩ := mem_ll hx; obtain ⟨v, hv, rfl⟩ := mem_ll hy
      rw [cfL_il]; have h1 := hr u hu; have h2 := hr v hv; exact compareL_c u v (by omega) (by omega))
    (hperm.map _) (by
      unfold ll
      rw [List.pairwise_map]
      exact hs.imp fun {x y} hxy h2 => hxy (by rwa [cfL_il] at h2)) (by rw [ll_length]; omega)
def srtL (xs : List (List Int)) : List (List Int) := xs.mergeSort fun v w => decide (¬ cmpL w v < 0)
theorem srtL_perm (xs : List (List Int)) : xs.Perm (srtL xs) := (List.mergeSort_perm xs _).symm
theorem srtL_sorted (xs : List (List Int)) : (srtL xs).Pairwise fun v w => ¬ cmpL w v < 0 := by
  have := List.pairwise_mergeSort (le := fun v w : List Int => decide (¬ cmpL w v < 0)) (fun a b c h1 h2 => by
    simp only [decide_eq_true_eq] at *
    exact cmpL_ntrans _ _ _ h2 h1) (fun a b => by
    simp only [Bool.or_eq_true, decide_eq_true_eq]
    by_cases h : cmpL b a < 0
    · right
      intro h2
      have := cmpL_trans _ _ _ h h2
      rw [cmpL_self] at this; exact absurd this (by decide)
    · exact .inl h) xs
  exact this.imp fun h => by simpa using h
theorem equal_c (v w : List Int) (hl : v.length ≤ 1000000) (hw : w.length ≤ 1000000) : FnC Try.prog 42 [.list (il v), .list (il w)] (.bool (decide (v = w))) := by
  refine fnc_of tab_ok Try.func42 rfl (by kernel_rfl) (by rw [Try.ntmps42]; exact Nat.le_add_left 2 _) ?_; rw [Try.ntmps42]
  refine qm ?_
  refine hk_region fun K hK => runs_eval tab_ok ?_
  simp only [ev0, evA, evB, evP, fl, gp, tab, simprocAttr, reduceCtorEq, reduceIte]
  refine fin_run trivial (hK _ ?_) <;> clear hK <;> clear K
  refine qa (qm (qm ?_))
  refine hk_region fun K hK => runs_eval tab_ok ?_
  simp only [ev0, evA, evB, evP, fl, gp, tab, simprocAttr, reduceCtorEq, reduceIte, il_length]
  refine fin_run trivial (hK _ ?_) <;> clear hK <;> clear K
  refine qa ?_
  refine hk_cond rfl (fun hC1 => ?_) (fun hC1 => ?_)
  · (try simp only [nhs] at hC1)
    have hne : v ≠ w := fun h => hC1 (by rw [h])
    refine qm ?_
    refine hk_region fun K hK => runs_eval tab_ok ?_
    simp only [ev0, evA, evB, evP, fl, gp, tab, simprocAttr, reduceCtorEq, reduceIte]
    refine fin_run trivial (hK _ ?_) <;> clear hK <;> clear K
    refine qa (qk (qb ?_))
    simp only [Try.results42, enA, ev0, evA, evB, evP, fl, gp, tab, simprocAttr, reduceCtorEq, reduceIte]
    all_goals (simp [hne])
  · (try simp only [nhs] at hC1)
    refine qh (qa (qm (qm ?_)))
    refine hk_region fun K hK => runs_eval tab_ok ?_
    simp only [ev0, evA, evB, evP, fl, gp, tab, simprocAttr, reduceCtorEq, reduceIte, il_length]
    refine fin_run trivial (hK _ ?_) <;> clear hK <;> clear K
    refine qa (ql ?_)
    refine hk_loop (ι := Nat) (fun k => ⟨26, [(0, .p (.list (il v))), (1, .p (.list (il w))), (12, .p (.int .i64 v.length)), (13, .p (.int .i64 k))], []⟩) (fun k => k ≤ v.length ∧ ∀ j, j < k → v.getD j 0 = w.getD j 0) (fun k => v.length - k) 0 ⟨Nat.zero_le _, fun j hj => absurd hj (Nat.not_lt_zero _)⟩ [] (by simp only [leq, leA, ev0, evA, evB, evP, fl, gp, tab, simprocAttr, reduceCtorEq, reduceIte] <;> trivial) fun k hk => ?_
    obtain ⟨hk1, hk2⟩ := hk
    refine qm ?_
    refine hk_region fun K hK => runs_eval tab_ok ?_
    simp only [ev0, evA, evB, evP, fl, gp, tab, simprocAttr, reduceCtorEq, reduceIte]
    refine fin_run trivial (hK _ ?_) <;> clear hK <;> clear K
    refine qa (qm ?_)
    refine hk_cond rfl (fun hC2 => ?_) (fun hC2 => ?_)
    · (try simp only [nhs] at hC2)
      have hkl : k < v.length := by omega
      refine qh (qa (qm (ql (qm ?_))))
      refine hk_region fun K hK => runs_eval tab_ok ?_
      simp only [ev0, evA, evB, evP, fl, gp, tab, simprocAttr, reduceCtorEq, reduceIte]
      refine fin_run trivial (hK _ ?_) <;> clear hK <;> clear K
      refine qa (qm ?_)
      refine hk_draw mixed (by kernel_rfl) fun K hK => runs_eval tab_ok ?_
      simp only [ev0, evA, evB, evP, fl, gp, tab, simprocAttr, reduceCtorEq, reduceIte, il_get (show k < v.length by omega), il_get (show k < w.length by omega)]
      refine fin_run ?_ (hK _ ?_) <;> clear hK <;> clear K
      · (first | exact trivial | omega | (simp only [In64] at *; omega) | (simp [In64] at *; omega) | (simp_all; done) | skip)
      refine qa ?_
      refine hk_cond rfl (fun hC3 => ?_) (fun hC3 => ?_)
      · (try simp only [nhs] at hC3)
        have hne : v ≠ w := fun h => hC3 (by rw [h])
        refine qm ?_
        refine hk_region fun K hK => runs_eval tab_ok ?_
        simp only [ev0, evA, evB, evP, fl, gp, tab, simprocAttr, reduceCtorEq, reduceIte]
        refine fin_run trivial (hK _ ?_) <;> clear hK <;> clear K
        refine qa (qk (qe (qb (qb (qe (qb ?_))))))
        simp only [Try.results42, enA, ev0, evA, evB, evP, fl, gp, tab, simprocAttr, reduceCtorEq, reduceIte]
        all_goals (simp [hne])
      · (try simp only [nhs] at hC3)
        refine qh (qd (qa ?_))
        refine hk_region fun K hK => runs_eval tab_ok ?_
        simp only [ev0, evA, evB, evP, fl, gp, tab, simprocAttr, reduceCtorEq, reduceIte]
        refine fin_run ?_ (hK _ ?_) <;> clear hK <;> clear K
        · (first | exact trivial | omega | (simp only [In64] at *; omega) | (simp [In64] at *; omega) | (simp_all; done) | skip)
        refine qa ?_
        refine ⟨k + 1, [], ⟨by omega, fun j hj => ?_⟩, by omega, ?_⟩
        · by_cases hjk : j = k
          · rw [hjk]; simpa using hC3
          · exact hk2 j (by omega)
        · simp only [leq, leA, ev0, evA, evB, evP, fl, gp, tab, simprocAttr, reduceCtorEq, reduceIte] <;> first | trivial | omega
    · (try simp only [nhs] at hC2)
      have he : v = w := by
        refine List.ext_getElem (by omega) fun j h1 h2 => ?_
        have := hk2 j (by omega)
        simpa [List.getD, List.getElem?_eq_getElem h1, List.getElem?_eq_getElem h2] using this
      refine qj (qc (qc (qf (qa (qm ?_)))))
      refine hk_region fun K hK => runs_eval tab_ok ?_
      simp only [ev0, evA, evB, evP, fl, gp, tab, simprocAttr, reduceCtorEq, reduceIte]
      refine fin_run trivial (hK _ ?_) <;> clear hK <;> clear K
      refine qa (qk ?_)
      simp only [Try.results42, enA, ev0, evA, evB, evP, fl, gp, tab, simprocAttr, reduceCtorEq, reduceIte]
      all_goals (simp [he])
theorem oll_set2 (l : List (List Int)) (i : Nat) (x : List Int) : (opl (ll l)).set i (.p (.list (il x))) = opl (ll (l.set i x)) := by
  simp [opl, ll, List.map_set]
theorem ll_takeL (ls : List (List Int)) : (ll ls).take ls.length = ll ls := List.take_of_length_le (by rw [ll_length]; exact Nat.le_refl _)
theorem ll_takeS (ls : List (List Int)) (x : List Int) : (ll (ls ++ [x])).take (ls.length + 1) = ll (ls ++ [x]) := List.take_of_length_le (by rw [ll_length]; simp)
theorem oll_get {ls : List (List Int)} {i : Nat} (hlt : i < ls.length) (d : AV) : (opl (ll ls)).getD i d = .p (.list (il (ls.getD i []))) := by simp [opl, ll, List.getD, List.getElem?_eq_getElem hlt]
/-- Less, letter by letter. -/
def lsb : List Int → List Int → Bool
  | a :: r, b :: t => bif decide (a = b) then lsb r t else decide (a < b)
  | _, _ => false
theorem lsb_at {v w : List Int} : ∀ {i : Nat}, (∀ j, j < i → v.getD j 0 = w.getD j 0) → i < v.length → i < w.length → ¬ v.getD i 0 = w.getD i 0 → lsb v w = decide (v.getD i 0 < w.getD i 0) := by
  intro i
  induction i generalizing v w with
  | zero =>
    intro _ hv hw hne
    cases v with
    | nil => simp at hv
    | cons a r =>
      cases w with
      | nil => simp at hw
      | cons b t =>
        have hne' : ¬ a = b := by simpa using hne
        unfold lsb; rw [decide_eq_false hne']; simp
  | succ i ih =>
    intro hall hv hw hne
    cases v with
    | nil => simp at hv
    | cons a r =>
      cases w with
      | nil => simp at hw
      | cons b t =>
        have hab : a = b := by simpa using hall 0 (by omega)
        unfold lsb; rw [decide_eq_true hab]
        have := ih (v := r) (w := t) (fun j hj => by simpa using hall (j + 1) (by omega)) (by simpa using hv) (by simpa using hw) (by simpa using hne)
        simpa using this
theorem lsb_eq {v w : List Int} (hall : ∀ j, j < v.length → v.getD j 0 = w.getD j 0) : lsb v w = false := by
  induction v generalizing w with
  | nil => rfl
  | cons a r ih =>
    cases w with
    | nil => rfl
    | cons b t =>
      have hab : a = b := by simpa using hall 0 (by simp)
      unfold lsb; rw [decide_eq_true hab]
      exact ih fun j hj => by simpa using hall (j + 1) (by simpa using hj)
theorem less_r (v w : List Int) (hv : v.length ≤ 1000000) (hl : w.length = v.length) : FnC Try.prog 53 [.list (il v), .list (il w)] (.bool (lsb v w)) := by
  refine fnc_of tab_ok Try.func53 rfl (by kernel_rfl) (by rw [Try.ntmps53]; exact Nat.le_add_left 2 _) ?_; rw [Try.ntmps53]
  refine qm ?_
  refine hk_region fun K hK => runs_eval tab_ok ?_
  simp only [ev0, evA, evB, evP, fl, gp, tab, simprocAttr, reduceCtorEq, reduceIte]
  refine fin_run trivial (hK _ ?_) <;> clear hK <;> clear K
  refine qa (qm (qm ?_))
  refine hk_region fun K hK => runs_eval tab_ok ?_
  simp only [ev0, evA, evB, evP, fl, gp, tab, simprocAttr, reduceCtorEq, reduceIte]
  refine fin_run trivial (hK _ ?_) <;> clear hK <;> clear K
  refine qa (ql ?_)
  refine hk_loop (ι := Nat) (fun i => ⟨30, [(0, .p (.list (il v))), (1, .p (.list (il w))), (5, .p (.int .i64 i))], []⟩) (fun i => i ≤ v.length ∧ ∀ j, j < i → v.getD j 0 = w.getD j 0) (fun i => v.length - i) 0 ⟨Nat.zero_le _, fun j hj => by omega⟩ [] (by simp only [leq, leA, ev0, evA, evB, evP, fl, gp, tab, simprocAttr, reduceCtorEq, reduceIte] <;> trivial) fun i hi => ?_
  obtain ⟨hi1, hi2⟩ := hi
  refine qm (qm ?_)
  refine hk_region fun K hK => runs_eval tab_ok ?_
  simp only [ev0, evA, evB, evP, fl, gp, tab, simprocAttr, reduceCtorEq, reduceIte]
  refine fin_run trivial (hK _ ?_) <;> clear hK <;> clear K
  refine qa ?_
  refine hk_cond rfl (fun hC1 => ?_) (fun hC1 => ?_)
  · (try simp only [nhs] at hC1)
    have hlt : i < v.length := by omega
    have hlw : i < w.length := by omega
    refine qh (qa (qm (ql (qm ?_))))
    refine hk_draw mixed (by kernel_rfl) fun K hK => runs_eval tab_ok ?_
    simp only [ev0, evA, evB, evP, fl, gp, tab, simprocAttr, reduceCtorEq, reduceIte, il_get hlt, il_get hlw]
    refine fin_run ?_ (hK _ ?_) <;> clear hK <;> clear K
    · (first | exact trivial | omega | (simp only [In64] at *; omega) | (simp [In64] at *; omega) | (simp_all; done) | skip)
    refine qa ?_
    refine hk_cond rfl (fun hC2 => ?_) (fun hC2 => ?_)
    · (try simp only [nhs] at hC2)
      refine qm ?_
      refine hk_draw mixed (by kernel_rfl) fun K hK => runs_eval tab_ok ?_
      simp only [ev0, evA, evB, evP, fl, gp, tab, simprocAttr, reduceCtorEq, reduceIte, il_get hlt, il_get hlw]
      refine fin_run ?_ (hK _ ?_) <;> clear hK <;> clear K
      · (first | exact trivial | omega | (simp only [In64] at *; omega) | (simp [In64] at *; omega) | (simp_all; done) | skip)
      refine qa (qk (qe (qb (qb (qe (qb ?_))))))
      simp only [Try.results53, enA, ev0, evA, evB, evP, fl, gp, tab, simprocAttr, reduceCtorEq, reduceIte]
      all_goals (rw [lsb_at hi2 hlt hlw hC2])
    · (try simp only [nhs] at hC2)
      refine qh (qd (qa ?_))
      refine hk_region fun K hK => runs_eval tab_ok ?_
      simp only [ev0, evA, evB, evP, fl, gp, tab, simprocAttr, reduceCtorEq, reduceIte]
      refine fin_run ?_ (hK _ ?_) <;> clear hK <;> clear K
      · (first | exact trivial | omega | (simp only [In64] at *; omega) | (simp [In64] at *; omega) | (simp_all; done) | skip)
      refine qa ?_
      refine ⟨i + 1, [], ⟨by omega, fun j hj => ?_⟩, by omega, ?_⟩
      · by_cases hj : j = i
        · subst hj; exact hC2
        · exact hi2 j (by omega)
      · simp only [leq, leA, ev0, evA, evB, evP, fl, gp, tab, simprocAttr, reduceCtorEq, reduceIte] <;> omega
  · (try simp only [nhs] at hC1)
    refine qj (qc (qc (qf (qa (qm ?_)))))
    refine hk_region fun K hK => runs_eval tab_ok ?_
    simp only [ev0, evA, evB, evP, fl, gp, tab, simprocAttr, reduceCtorEq, reduceIte]
    refine fin_run trivial (hK _ ?_) <;> clear hK <;> clear K
    refine qa (qk ?_)
    simp only [Try.results53, enA, ev0, evA, evB, evP, fl, gp, tab, simprocAttr, reduceCtorEq, reduceIte]
    all_goals (rw [lsb_eq fun j hj => hi2 j (by omega)])
theorem lsb_cmp {v w : List Int} (hl : v.length = w.length) (h : cmpL v w < 0) : lsb v w = true := by
  induction v generalizing w with
  | nil =>
    cases w with
    | nil => rw [cmpL_self] at h; exact absurd h (by decide)
    | cons b t => simp at hl
  | cons a r ih =>
    cases w with
    | nil => simp at hl
    | cons b t =>
      unfold lsb
      rcases cmpL_cons_lt.1 h with h1 | ⟨h1, h2⟩
      · rw [decide_eq_false (by omega), decide_eq_true h1]; rfl
      · rw [decide_eq_true h1]; exact ih (by simpa using hl) h2

theorem cmp_lsb {v w : List Int} (hl : v.length = w.length) (h : lsb v w = true) : cmpL v w < 0 := by
  induction v generalizing w with
  | nil => unfold lsb at h; cases h
  | cons a r ih =>
    cases w with
    | nil => simp at hl
    | cons b t =>
      unfold lsb at h
      refine cmpL_cons_lt.2 ?_
      by_cases hab : a = b
      · rw [decide_eq_true hab, cond_true] at h
        exact .inr ⟨hab, ih (by simpa using hl) h⟩
      · rw [decide_eq_false hab, cond_false, decide_eq_true_eq] at h
        exact .inl h
theorem pw_unique {α : Type} {R : α → α → Prop} (anti : ∀ a b, R a b → R b a → a = b) : ∀ (xs ys : List α), xs.Perm ys → xs.Pairwise R → ys.Pairwise R → xs = ys
  | [], ys, h, _, _ => h.symm.eq_nil.symm
  | x :: r, [], h, _, _ => h.eq_nil
  | x :: r, y :: s, h, h1, h2 => by
    have hxy : x = y := by
      have m1 : x ∈ y :: s := h.mem_iff.1 (by simp)
      have m2 : y ∈ x :: r := h.mem_iff.2 (by simp)
      rcases List.mem_cons.1 m1 with h3 | h3
      · exact h3
      · rcases List.mem_cons.1 m2 with h4 | h4
        · exact h4.symm
        · exact anti _ _ ((List.pairwise_cons.1 h1).1 y h4) ((List.pairwise_cons.1 h2).1 x h3)
    subst hxy
    rw [pw_unique anti r s (List.Perm.cons_inv h) (List.pairwise_cons.1 h1).2 (List.pairwise_cons.1 h2).2]
theorem srtL_unique {xs ys : List (List Int)} (h : xs.Perm ys) (hs : ys.Pairwise fun v w => ¬ cmpL w v < 0) : ys = srtL xs :=
  pw_unique (fun a b h1 h2 => cmpL_tot _ _ h2 h1) _ _ (h.symm.trans (srtL_perm xs)) hs (srtL_sorted xs)

/-- Where the sorting stands: up to i in order, but for what stands at k. -/
structure Rsn (c : Nat) (xs : List (List Int)) (i k : Nat) (R : List (List Int)) : Prop where
  perm : R.Perm xs
  ord : ∀ a b, a < b → b ≤ i → b ≠ k → lsb (R.getD b []) (R.getD a []) = false
theorem lsb_tr {c : Nat} {u v w : List Int} (hu : u.length = c) (hv : v.length = c) (hw : w.length = c) (h1 : lsb v u = false) (h2 : lsb w v = false) : lsb w u = false := by
  rw [Bool.eq_false_iff]
  intro h3
  have h3 := cmp_lsb (by omega) h3
  have h1 : ¬ cmpL v u < 0 := fun h => by rw [lsb_cmp (by omega) h] at h1; cases h1
  have h2 : ¬ cmpL w v < 0 := fun h => by rw [lsb_cmp (by omega) h] at h2; cases h2
  exact cmpL_ntrans _ _ _ h2 h1 h3
theorem lsb_as {c : Nat} {v w : List Int} (hv : v.length = c) (hw : w.length = c) (h : lsb v w = true) : lsb w v = false := by
  rw [Bool.eq_false_iff]
  intro h3
  have h4 := cmpL_trans _ _ _ (cmp_lsb (by omega) h) (cmp_lsb (by omega) h3)
  rw [cmpL_self] at h4
  exact absurd h4 (by decide)
section
variable {c : Nat} {xs R : List (List Int)} {i k : Nat}
theorem Rsn.len (h : Rsn c xs i k R) (hc : ∀ v ∈ xs, v.length = c) {a : Nat} (ha : a < xs.length) : (R.getD a []).length = c := by
  have hl := h.perm.length_eq
  refine hc _ (h.perm.mem_iff.1 ?_)
  simp [List.getD, List.getElem?_eq_getElem (show a < R.length by omega)]
theorem Rsn.stop (h : Rsn c xs i k R) (hc : ∀ v ∈ xs, v.length = c) (hi : i < xs.length) (hk : k ≤ i) (hs : k = 0 ∨ lsb (R.getD k []) (R.getD (k - 1) []) = false) : ∀ a b, a < b → b ≤ i → lsb (R.getD b []) (R.getD a []) = false := fun a b hab hb => by
  by_cases hbk : b = k
  · subst hbk
    rcases hs with hs | hs
    · omega
    · by_cases hak : a = b - 1
      · rw [hak]; exact hs
      · exact lsb_tr (h.len hc (by omega)) (h.len hc (show b - 1 < xs.length by omega)) (h.len hc (by omega)) (h.ord a (b - 1) (by omega) (by omega) (by omega)) hs
  · exact h.ord a b hab hb hbk
theorem Rsn.swap (h : Rsn c xs i (k + 1) R) (hc : ∀ v ∈ xs, v.length = c) (hi : i < xs.length) (hk : k + 1 ≤ i) (hs : lsb (R.getD (k + 1) []) (R.getD k []) = true) : Rsn c xs i k ((R.set (k + 1) (R.getD k [])).set k (R.getD (k + 1) [])) := by
  have hl := h.perm.length_eq
  have e1 : R.getD k [] = R[k]'(by omega) := by simp [List.getD, List.getElem?_eq_getElem (show k < R.length by omega)]
  have e2 : R.getD (k + 1) [] = R[k + 1]'(by omega) := by simp [List.getD, List.getElem?_eq_getElem (show k + 1 < R.length by omega)]
  have hg : ∀ j, j < xs.length → ((R.set (k + 1) (R.getD k [])).set k (R.getD (k + 1) [])).getD j [] = if j = k then R.getD (k + 1) [] else if j = k + 1 then R.getD k [] else R.getD j [] := fun j hj => by
    by_cases j1 : j = k
    · subst j1
      rw [if_pos rfl]
      simp [List.getD, show j < R.length by omega]
    · rw [if_neg j1]
      by_cases j2 : j = k + 1
      · subst j2
        rw [if_pos rfl]
        simp only [List.getD, List.getElem?_set_ne (show k ≠ k + 1 by omega)]
        simp [show k + 1 < R.length by omega]
      · rw [if_neg j2]
        simp only [List.getD, List.getElem?_set_ne (Ne.symm j1), List.getElem?_set_ne (Ne.symm j2)]
  refine ⟨?_, fun a b hab hb hbk => ?_⟩
  · have := List.set_set_perm (show k + 1 < R.length by omega) (show k < R.length by omega)
    rw [e1, e2]
    exact this.trans h.perm
  · rw [hg a (by omega), hg b (by omega), if_neg hbk]
    by_cases b1 : b = k + 1
    · rw [if_pos b1]
      by_cases a1 : a = k
      · rw [if_pos a1]
        exact lsb_as (h.len hc (by omega)) (h.len hc (by omega)) hs
      · rw [if_neg a1, if_neg (by omega)]
        exact h.ord a k (by omega) (by omega) (by omega)
    · rw [if_neg b1]
      by_cases a1 : a = k
      · rw [if_pos a1]
        exact h.ord (k + 1) b (by omega) hb b1
      · rw [if_neg a1]
        by_cases a2 : a = k + 1
        · rw [if_pos a2]
          exact h.ord k b (by omega) hb b1
        · rw [if_neg a2]
          exact h.ord a b hab hb b1
end

end Go.Proofs.Ytboadfahlflmhaa

/-
  What permutations make, as both find it; plain. Conditions: none.
-/
set_option linter.all false
namespace Go.Proofs.Ytboadfahlflmhaa
open Go.Pv

/-- One thing's products; none where there are more than 60. -/
def pqrow (t : List Int) : List (List Int) → List (List Int) → Option (List (List Int))
  | [], T => some T
  | q :: l, T => if thn t q ∈ T then pqrow t l T else if T.length + 1 > 60 then none else pqrow t l (T ++ [thn t q])
def pqcl (l : List (List Int)) : Nat → List (List Int) → Nat → Option (List (List Int))
  | 0, T, _ => some T
  | f + 1, T, i => if i < T.length then (pqrow (T.getD i []) l T).bind fun T' => pqcl l f T' (i + 1) else some T

theorem pqrow_spec {t : List Int} : ∀ {l T T' : List (List Int)}, pqrow t l T = some T' → (∃ A, T' = T ++ A) ∧ (∀ q ∈ l, thn t q ∈ T') ∧ (T.Nodup → T'.Nodup) ∧ (∀ P : List Int → Prop, (∀ x ∈ T, P x) → (∀ q ∈ l, P (thn t q)) → ∀ x ∈ T', P x) ∧ (T.length ≤ 60 → T'.length ≤ 60)
  | [], T, T', h => by
    have : T = T' := by simpa [pqrow] using h
    subst this
    exact ⟨⟨[], by simp⟩, by simp, id, fun P h _ => h, id⟩
  | q :: l, T, T', h => by
    unfold pqrow at h
    by_cases h1 : thn t q ∈ T
    · rw [if_pos h1] at h
      obtain ⟨⟨A, hA⟩, a2, a3, a4, a5⟩ := pqrow_spec h
      refine ⟨⟨A, hA⟩, fun x hx => ?_, a3, fun P p1 p2 => a4 P p1 fun x hx => p2 x (List.mem_cons_of_mem _ hx), a5⟩
      rcases List.mem_cons.1 hx with rfl | hx
      · rw [hA]; exact List.mem_append_left _ h1
      · exact a2 x hx
    · rw [if_neg h1] at h
      by_cases h2 : T.length + 1 > 60
      · rw [if_pos h2] at h; cases h
      · rw [if_neg h2] at h
        obtain ⟨⟨A, hA⟩, a2, a3, a4, a5⟩ := pqrow_spec h
        refine ⟨⟨[thn t q] ++ A, by rw [hA, List.append_assoc]⟩, fun x hx => ?_, fun hn => a3 ?_, fun P p1 p2 => a4 P (fun x hx => ?_) fun x hx => p2 x (List.mem_cons_of_mem _ hx), fun _ => a5 (by rw [List.length_append]; simp; omega)⟩
        · rcases List.mem_cons.1 hx with rfl | hx
          · rw [hA]; simp
          · exact a2 x hx
        · rw [List.nodup_append]
          exact ⟨hn, by simp, fun a ha b hb he => h1 (by rw [List.mem_singleton.1 hb] at he; rw [← he]; exact ha)⟩
        · rcases List.mem_append.1 hx with hx | hx
          · exact p1 x hx
          · rw [List.mem_singleton.1 hx]; exact p2 q (List.mem_cons_self ..)
theorem pqcl_spec {l : List (List Int)} : ∀ {f i : Nat} {T T' : List (List Int)}, pqcl l f T i = some T' → i + f = 61 → T.length ≤ 60 → (∀ j, j < i → j < T.length → ∀ q ∈ l, thn (T.getD j []) q ∈ T) → T.Nodup →
    (∃ A, T' = T ++ A) ∧ (∀ t ∈ T', ∀ q ∈ l, thn t q ∈ T') ∧ T'.Nodup ∧ T'.length ≤ 60 ∧ (∀ P : List Int → Prop, (∀ x ∈ T, P x) → (∀ t, P t → ∀ q ∈ l, P (thn t q)) → ∀ x ∈ T', P x)
  | 0, i, T, T', h, hf, hl, hc, hn => by
    have : T = T' := by simpa [pqcl] using h
    subst this
    refine ⟨⟨[], by simp⟩, fun t ht q hq => ?_, hn, hl, fun P h _ => h⟩
    obtain ⟨j, hj, rfl⟩ := List.mem_iff_getElem.1 ht
    have := hc j (by omega) hj q hq
    simpa [List.getD, List.getElem?_eq_getElem hj] using this
  | f + 1, i, T, T', h, hf, hl, hc, hn => by
    unfold pqcl at h
    by_cases h1 : i < T.length
    · rw [if_pos h1] at h
      obtain ⟨T1, e1, h2⟩ := Option.bind_eq_some_iff.1 h
      obtain ⟨⟨A, hA⟩, a2, a3, a4, a5⟩ := pqrow_spec e1
      have hgd : ∀ j, j < T.length → T1.getD j [] = T.getD j [] := fun j hj => by
        rw [hA, List.getD, List.getElem?_append_left hj]; rfl
      obtain ⟨⟨B, hB⟩, b2, b3, b4, b5⟩ := pqcl_spec h2 (by omega) (a5 hl) (fun j hj hjl q hq => by
        by_cases hji : j = i
        · subst hji
          rw [hgd j h1]; exact a2 q hq
        · rw [hgd j (by omega), hA]
          exact List.mem_append_left _ (hc j (by omega) (by omega) q hq)) (a3 hn)
      refine ⟨⟨A ++ B, by rw [hB, hA, List.append_assoc]⟩, b2, b3, b4, fun P p1 p2 => b5 P (a4 P p1 fun q hq => p2 _ (p1 _ ?_) q hq) p2⟩
      simp [List.getD, List.getElem?_eq_getElem h1]
    · rw [if_neg h1] at h
      have : T = T' := by simpa using h
      subst this
      refine ⟨⟨[], by simp⟩, fun t ht q hq => ?_, hn, hl, fun P h _ => h⟩
      obtain ⟨j, hj, rfl⟩ := List.mem_iff_getElem.1 ht
      have := hc j (by omega) hj q hq
      simpa [List.getD, List.getElem?_eq_getElem hj] using this

/-- What stays. -/
def idr (c : Nat) : List Int := rg (fun x => ((x : Nat) : Int)) c
theorem idr_len (c : Nat) : (idr c).length = c := rg_len _ c
theorem idr_get {c i : Nat} (h : i < c) : (idr c).getD i 0 = ((i : Nat) : Int) := rg_get _ h
theorem thn_len (p q : List Int) : (thn p q).length = p.length := by simp [thn]
theorem thn_get {p q : List Int} {i : Nat} (h : i < p.length) : (thn p q).getD i 0 = q.getD (p.getD i 0).toNat 0 := by
  simp [thn, List.getD, List.getElem?_eq_getElem h]
theorem row_ext {v w : List Int} (hl : v.length = w.length) (h : ∀ i, i < v.length → v.getD i 0 = w.getD i 0) : v = w := by
  refine List.ext_getElem hl fun i h1 h2 => ?_
  have := h i h1
  simpa [List.getD, List.getElem?_eq_getElem h1, List.getElem?_eq_getElem h2] using this
theorem idr_perm {c : Nat} (h : c ≤ 1000) : PermOk (idr c) where
  len := by rw [idr_len]; exact h
  rng i hi := by rw [idr_len] at hi ⊢; rw [idr_get hi]; omega
  inj i j hi hj he := by rw [idr_len] at hi hj; rw [idr_get hi, idr_get hj] at he; omega
theorem thn_perm {p q : List Int} (hp : PermOk p) (hq : PermOk q) (hl : q.length = p.length) : PermOk (thn p q) where
  len := by rw [thn_len]; exact hp.len
  rng i hi := by
    rw [thn_len] at hi ⊢
    rw [thn_get hi]
    have h1 := hp.rng i hi
    have h2 := hq.rng (p.getD i 0).toNat (by omega)
    omega
  inj i j hi hj he := by
    rw [thn_len] at hi hj
    rw [thn_get hi, thn_get hj] at he
    have h1 := hp.rng i hi
    have h2 := hp.rng j hj
    have := hq.inj _ _ (by omega) (by omega) he
    exact hp.inj i j hi hj (by omega)
theorem thn_assoc {a b q : List Int} (ha : PermOk a) (hl : b.length = a.length) : thn a (thn b q) = thn (thn a b) q := by
  refine row_ext (by rw [thn_len, thn_len, thn_len]) fun i hi => ?_
  rw [thn_len] at hi
  have h1 := ha.rng i hi
  rw [thn_get (p := a) (q := thn b q) hi, thn_get (p := b) (by omega), thn_get (p := thn a b) (by rw [thn_len]; exact hi), thn_get (p := a) (q := b) hi]
theorem thn_idr {a : List Int} (ha : PermOk a) : thn a (idr a.length) = a := by
  refine row_ext (by rw [thn_len]) fun i hi => ?_
  rw [thn_len] at hi
  have h1 := ha.rng i hi
  rw [thn_get hi, idr_get (by omega)]
  omega

/-- All that is made: products of two are in it. -/
structure Pgr (l : List (List Int)) (c : Nat) (T : List (List Int)) : Prop where
  len : T.length ≤ 60
  pos : 0 < T.length
  nodup : T.Nodup
  perm : ∀ t ∈ T, PermOk t ∧ t.length = c
  mul : ∀ a ∈ T, ∀ b ∈ T, thn a b ∈ T
theorem pq_grp {l : List (List Int)} {c : Nat} (hc : c ≤ 1000) (hl : ∀ q ∈ l, PermOk q ∧ q.length = c) {T : List (List Int)} (h : pqcl l 61 [idr c] 0 = some T) : Pgr l c T := by
  obtain ⟨⟨A, hA⟩, a2, a3, a4, a5⟩ := pqcl_spec h rfl (by simp) (fun j hj => absurd hj (Nat.not_lt_zero _)) (by simp)
  have hp : ∀ t ∈ T, PermOk t ∧ t.length = c := a5 _ (fun x hx => by
    rw [List.mem_singleton.1 hx]; exact ⟨idr_perm hc, idr_len c⟩) fun t ht q hq => ⟨thn_perm ht.1 (hl q hq).1 (by rw [(hl q hq).2, ht.2]), by rw [thn_len]; exact ht.2⟩
  refine ⟨a4, by rw [hA]; simp, a3, hp, fun a ha b hb => ?_⟩
  have key := a5 (fun b => (PermOk b ∧ b.length = c) ∧ thn a b ∈ T) (fun x hx => by
    rw [List.mem_singleton.1 hx]
    refine ⟨⟨idr_perm hc, idr_len c⟩, ?_⟩
    have := (hp a ha).2
    rw [← this, thn_idr (hp a ha).1]; exact ha) (fun t ht q hq => ⟨⟨thn_perm ht.1.1 (hl q hq).1 (by rw [(hl q hq).2, ht.1.2]), by rw [thn_len]; exact ht.1.2⟩, by
    rw [thn_assoc (hp a ha).1 (by rw [ht.1.2, (hp a ha).2])]
    exact a2 _ ht.2 q hq⟩) b hb
  exact key.2
end Go.Proofs.Ytboadfahlflmhaa

/-
  Walks: what stays; is a row in rows of rows. Conditions: none.
-/
set_option linter.all false
namespace Go.Proofs.Ytboadfahlflmhaa
open Go.Pv

def idz (c i : Nat) : List Int := (List.range c).map fun j => if j < i then ((j : Nat) : Int) else 0
theorem idz_len (c i : Nat) : (idz c i).length = c := by simp [idz]
theorem idz_zero (c : Nat) : List.replicate c 0 = idz c 0 := by
  apply List.ext_getElem
  · simp [idz]
  · intro i h1 h2; simp [idz]
theorem idz_set {c i : Nat} : (idz c i).set i ((i : Nat) : Int) = idz c (i + 1) := by
  apply List.ext_getElem
  · simp [idz]
  · intro j h1 h2
    simp only [idz, List.getElem_set, List.getElem_map, List.getElem_range]
    by_cases e : i = j
    · subst e; simp
    · rw [if_neg e]
      by_cases hj : j < i
      · rw [if_pos hj, if_pos (by omega)]
      · rw [if_neg hj, if_neg (by omega)]
theorem idz_all (c : Nat) : idz c c = idr c := by
  apply List.ext_getElem
  · simp [idz, idr, rg]
  · intro j h1 h2
    have hj : j < c := by simpa [idz] using h1
    simp [idz, idr, rg, hj]
theorem stay_c (c : Nat) (hc : c ≤ 1000) : FnC Try.prog 38 [.int .i64 c] (.list (il (idr c))) := by
  refine fnc_of tab_ok Try.func38 rfl (by kernel_rfl) (by rw [Try.ntmps38]; exact Nat.le_add_left 1 _) ?_; rw [Try.ntmps38]
  refine qm ?_
  refine hk_region fun K hK => runs_eval tab_ok ?_
  simp only [ev0, evA, evB, evP, fl, gp, tab, simprocAttr, reduceCtorEq, reduceIte]
  refine fin_run trivial (hK _ ?_) <;> clear hK <;> clear K
  refine qa (qm ?_)
  refine hk_region fun K hK => runs_eval tab_ok ?_
  simp only [ev0, evA, evB, evP, fl, gp, tab, simprocAttr, reduceCtorEq, reduceIte, ol_replicate, idz_zero c]
  refine fin_run ?_ (hK _ ?_) <;> clear hK <;> clear K
  · simp [dstOk]; omega
  refine qa (qm (qm ?_))
  refine hk_region fun K hK => runs_eval tab_ok ?_
  simp only [ev0, evA, evB, evP, fl, gp, tab, simprocAttr, reduceCtorEq, reduceIte]
  refine fin_run trivial (hK _ ?_) <;> clear hK <;> clear K
  refine qa (ql ?_)
  refine hk_loop (ι := Nat) (fun i => ⟨18, [(3, .sl 0 0 (idz c i).length), (8, .p (.int .i64 c)), (9, .p (.int .i64 i))], [.own (ol (idz c i))]⟩) (fun i => i ≤ c) (fun i => c - i) 0 (Nat.zero_le _) [0] (by simp only [leq, leA, ev0, evA, evB, evP, fl, gp, tab, simprocAttr, reduceCtorEq, reduceIte] <;> simp [idz_len] <;> (rw [← idz_zero, ← ol_replicate])) fun i hi => ?_
  have htl := idz_len c i
  refine qm ?_
  refine hk_region fun K hK => runs_eval tab_ok ?_
  simp only [ev0, evA, evB, evP, fl, gp, tab, simprocAttr, reduceCtorEq, reduceIte]
  refine fin_run trivial (hK _ ?_) <;> clear hK <;> clear K
  refine qa (qm ?_)
  refine hk_cond rfl (fun hC1 => ?_) (fun hC1 => ?_)
  · (try simp only [nhs] at hC1)
    have hlt : i < c := by omega
    refine qh (qa (qm (ql (qm ?_))))
    refine hk_region fun K hK => runs_eval tab_ok ?_
    simp only [ev0, evA, evB, evP, fl, gp, tab, simprocAttr, reduceCtorEq, reduceIte]
    refine fin_run trivial (hK _ ?_) <;> clear hK <;> clear K
    refine qa ?_
    refine hk_region fun K hK => runs_eval tab_ok ?_
    simp only [ev0, evA, evB, evP, fl, gp, tab, simprocAttr, reduceCtorEq, reduceIte, Nat.zero_add, ol_set, idz_set]
    refine fin_run ?_ (hK _ ?_) <;> clear hK <;> clear K
    · (first | exact trivial | omega | (simp only [In64] at *; omega) | (simp [In64] at *; omega) | (simp_all; done) | skip)
    refine qd (qa ?_)
    refine hk_region fun K hK => runs_eval tab_ok ?_
    simp only [ev0, evA, evB, evP, fl, gp, tab, simprocAttr, reduceCtorEq, reduceIte]
    refine fin_run ?_ (hK _ ?_) <;> clear hK <;> clear K
    · (first | exact trivial | omega | (simp only [In64] at *; omega) | (simp [In64] at *; omega) | (simp_all; done) | skip)
    refine qa ?_
    refine ⟨i + 1, [0], by omega, by omega, ?_⟩
    have htl2 := idz_len c (i + 1)
    simp only [leq, leA, ev0, evA, evB, evP, fl, gp, tab, simprocAttr, reduceCtorEq, reduceIte] <;> first | trivial | omega | (rw [htl, htl2])
  · (try simp only [nhs] at hC1)
    have hin : i = c := by omega
    subst hin
    refine hk_seal 3 0 rfl rfl ?_
    refine qj (qc (qc (qf (qa (qm ?_)))))
    refine hk_region fun K hK => runs_eval tab_ok ?_
    simp only [ev0, evA, evB, evP, fl, gp, tab, simprocAttr, reduceCtorEq, reduceIte]
    refine fin_run trivial (hK _ ?_) <;> clear hK <;> clear K
    refine qa (qk ?_)
    simp only [Try.results38, enA, ev0, evA, evB, evP, fl, gp, tab, simprocAttr, reduceCtorEq, reduceIte]
    all_goals (rw [idz_all])
theorem stays_i (c : Nat) (hc : c ≤ 1000000) : FnC Try.prog 51 [.int .i64 c] (.list (il (idr c))) := by
  refine fnc_of tab_ok Try.func51 rfl (by kernel_rfl) (by rw [Try.ntmps51]; exact Nat.le_add_left 1 _) ?_; rw [Try.ntmps51]
  refine qm ?_
  refine hk_region fun K hK => runs_eval tab_ok ?_
  simp only [ev0, evA, evB, evP, fl, gp, tab, simprocAttr, reduceCtorEq, reduceIte]
  refine fin_run trivial (hK _ ?_) <;> clear hK <;> clear K
  refine qa (qm ?_)
  refine hk_region fun K hK => runs_eval tab_ok ?_
  simp only [ev0, evA, evB, evP, fl, gp, tab, simprocAttr, reduceCtorEq, reduceIte]
  refine fin_run trivial (hK _ ?_) <;> clear hK <;> clear K
  refine qa (qm (qm ?_))
  refine hk_own0 3 rfl ?_
  refine hk_region fun K hK => runs_eval tab_ok ?_
  simp only [ev0, evA, evB, evP, fl, gp, tab, simprocAttr, reduceCtorEq, reduceIte]
  refine fin_run trivial (hK _ ?_) <;> clear hK <;> clear K
  refine qa (ql ?_)
  refine hk_loop (ι := Nat) (fun i => ⟨15, [(0, .p (.int .i64 c)), (3, .sl 0 0 (idr i).length), (4, .p (.int .i64 i))], [.own (ol (idr i))]⟩) (fun i => i ≤ c) (fun i => c - i) 0 (Nat.zero_le _) [0] (by simp only [leq, leA, ev0, evA, evB, evP, fl, gp, tab, simprocAttr, reduceCtorEq, reduceIte] <;> simp [idr, rg, ol_nil]) fun i hi => ?_
  have hl := idr_len i
  refine qm (qm ?_)
  refine hk_region fun K hK => runs_eval tab_ok ?_
  simp only [ev0, evA, evB, evP, fl, gp, tab, simprocAttr, reduceCtorEq, reduceIte]
  refine fin_run trivial (hK _ ?_) <;> clear hK <;> clear K
  refine qa ?_
  refine hk_cond rfl (fun hC1 => ?_) (fun hC1 => ?_)
  · (try simp only [nhs] at hC1)
    have hlt : i < c := by omega
    have hs : idr (i + 1) = idr i ++ [((i : Nat) : Int)] := rg_succ _ _
    refine qh (qa (qm (ql ?_)))
    refine hk_region fun K hK => runs_eval tab_ok ?_
    simp only [ev0, evA, evB, evP, fl, gp, tab, simprocAttr, reduceCtorEq, reduceIte]
    refine fin_run ?_ (hK _ ?_) <;> clear hK <;> clear K
    · (first | exact trivial | omega | (simp only [In64] at *; omega) | (simp [In64] at *; omega) | (simp_all; done) | skip)
    refine qd (qa ?_)
    refine hk_region fun K hK => runs_eval tab_ok ?_
    simp only [ev0, evA, evB, evP, fl, gp, tab, simprocAttr, reduceCtorEq, reduceIte]
    refine fin_run ?_ (hK _ ?_) <;> clear hK <;> clear K
    · (first | exact trivial | omega | (simp only [In64] at *; omega) | (simp [In64] at *; omega) | (simp_all; done) | skip)
    refine qa ?_
    refine ⟨i + 1, [1], by omega, by omega, ?_⟩
    rw [hs]
    simp only [leq, leA, ev0, evA, evB, evP, fl, gp, tab, simprocAttr, reduceCtorEq, reduceIte] <;> first | trivial | omega
  · (try simp only [nhs] at hC1)
    have hin : i = c := by omega
    subst hin
    refine hk_seal 3 0 rfl rfl ?_
    refine qj (qc (qc (qf (qa (qm ?_)))))
    refine hk_region fun K hK => runs_eval tab_ok ?_
    simp only [ev0, evA, evB, evP, fl, gp, tab, simprocAttr, reduceCtorEq, reduceIte]
    refine fin_run trivial (hK _ ?_) <;> clear hK <;> clear K
    refine qa (qk ?_)
    simp only [Try.results51, enA, ev0, evA, evB, evP, fl, gp, tab, simprocAttr, reduceCtorEq, reduceIte]
    all_goals (rfl)

def lix (p : List Int → Bool) (l : List (List Int)) : Int := match fst' (fun i => p (l.getD i [])) l.length with | some i => (i : Int) | none => -1
theorem getD_memR {l : List (List Int)} {i : Nat} (h : i < l.length) : l.getD i [] ∈ l := by
  simp [List.getD, List.getElem?_eq_getElem h]
theorem lindexFunc_c (l : List (List Int)) (F : FuncId) (caps : List PV) (p : List Int → Bool) (hl : l.length ≤ 100000000) (hF : ∀ x ∈ l, FnC Try.prog F (.list (il x) :: caps) (.bool (p x))) : FnC Try.prog 48 [.list (ll l), .fn F caps] (.int .i64 (lix p l)) := by
  refine fnc_of tab_ok Try.func48 rfl (by kernel_rfl) (by rw [Try.ntmps48]; exact Nat.le_add_left 2 _) ?_; rw [Try.ntmps48]
  refine qm ?_
  refine hk_region fun K hK => runs_eval tab_ok ?_
  simp only [ev0, evA, evB, evP, fl, gp, tab, simprocAttr, reduceCtorEq, reduceIte]
  refine fin_run trivial (hK _ ?_) <;> clear hK <;> clear K
  refine qa (qm (qm ?_))
  refine hk_region fun K hK => runs_eval tab_ok ?_
  simp only [ev0, evA, evB, evP, fl, gp, tab, simprocAttr, reduceCtorEq, reduceIte, ll_length]
  refine fin_run trivial (hK _ ?_) <;> clear hK <;> clear K
  refine qa (ql ?_)
  refine hk_loop (ι := Nat) (fun i => ⟨19, [(0, .p (.list (ll l))), (1, .p (.fn F caps)), (7, .p (.int .i64 l.length)), (8, .p (.int .i64 i))], []⟩) (fun i => i ≤ l.length ∧ ∀ j, j < i → p (l.getD j []) = false) (fun i => l.length - i) 0 ⟨Nat.zero_le _, fun j hj => by omega⟩ [] (by simp only [leq, leA, ev0, evA, evB, evP, fl, gp, tab, simprocAttr, reduceCtorEq, reduceIte] <;> trivial) fun i hi => ?_
  obtain ⟨hi1, hi2⟩ := hi
  refine qm ?_
  refine hk_region fun K hK => runs_eval tab_ok ?_
  simp only [ev0, evA, evB, evP, fl, gp, tab, simprocAttr, reduceCtorEq, reduceIte]
  refine fin_run trivial (hK _ ?_) <;> clear hK <;> clear K
  refine qa (qm ?_)
  refine hk_cond rfl (fun hC1 => ?_) (fun hC1 => ?_)
  · (try simp only [nhs] at hC1)
    have hlt : i < l.length := by omega
    refine qh (qa (qm (ql (qm ?_))))
    refine hk_region fun K hK => runs_eval tab_ok ?_
    simp only [ev0, evA, evB, evP, fl, gp, tab, simprocAttr, reduceCtorEq, reduceIte]
    refine fin_run trivial (hK _ ?_) <;> clear hK <;> clear K
    refine qa (qm ?_)
    refine hk_region fun K hK => runs_eval tab_ok ?_
    simp only [ev0, evA, evB, evP, fl, gp, tab, simprocAttr, reduceCtorEq, reduceIte, ll_get hlt, ll_length]
    refine fin_stop ?_ (runs_call (hF _ (getD_memR hlt)) rfl rfl rfl (by simp only [dstOk, Nat.reduceLT]) (by repeat (first | exact trivial | constructor)) (runs_eval tab_ok ?_))
    · (first | exact trivial | omega | (simp only [In64] at *; omega) | (simp [In64] at *; omega) | (simp_all; done) | skip)
    simp only [ev0, evA, evB, evP, fl, gp, tab, simprocAttr, reduceCtorEq, reduceIte, ll_get hlt, ll_length]
    refine fin_run ?_ (hK _ ?_) <;> clear hK <;> clear K
    · (first | exact trivial | omega | (simp only [In64] at *; omega) | (simp [In64] at *; omega) | (simp_all; done) | skip)
    refine qa ?_
    refine hk_cond rfl (fun hC2 => ?_) (fun hC2 => ?_)
    · (try simp only [nhs] at hC2)
      refine qm ?_
      refine hk_region fun K hK => runs_eval tab_ok ?_
      simp only [ev0, evA, evB, evP, fl, gp, tab, simprocAttr, reduceCtorEq, reduceIte]
      refine fin_run trivial (hK _ ?_) <;> clear hK <;> clear K
      refine qa (qk (qe (qb (qb (qe (qb ?_))))))
      simp only [Try.results48, enA, ev0, evA, evB, evP, fl, gp, tab, simprocAttr, reduceCtorEq, reduceIte]
      all_goals (unfold lix; rw [fst_some hlt hC2 hi2])
    · (try simp only [nhs] at hC2)
      refine qh (qd (qa ?_))
      refine hk_region fun K hK => runs_eval tab_ok ?_
      simp only [ev0, evA, evB, evP, fl, gp, tab, simprocAttr, reduceCtorEq, reduceIte]
      refine fin_run ?_ (hK _ ?_) <;> clear hK <;> clear K
      · (first | exact trivial | omega | (simp only [In64] at *; omega) | (simp [In64] at *; omega) | (simp_all; done) | skip)
      refine qa ?_
      refine ⟨i + 1, [], ⟨by omega, fun j hj => ?_⟩, by omega, ?_⟩
      · by_cases hj2 : j = i
        · subst hj2; exact hC2
        · exact hi2 j (by omega)
      · simp only [leq, leA, ev0, evA, evB, evP, fl, gp, tab, simprocAttr, reduceCtorEq, reduceIte] <;> omega
  · (try simp only [nhs] at hC1)
    refine qj (qc (qc (qf (qa (qm ?_)))))
    refine hk_region fun K hK => runs_eval tab_ok ?_
    simp only [ev0, evA, evB, evP, fl, gp, tab, simprocAttr, reduceCtorEq, reduceIte]
    refine fin_run trivial (hK _ ?_) <;> clear hK <;> clear K
    refine qa (qk ?_)
    simp only [Try.results48, enA, ev0, evA, evB, evP, fl, gp, tab, simprocAttr, reduceCtorEq, reduceIte]
    all_goals (unfold lix; rw [fst_none fun j hj => hi2 j (by omega)])
theorem lcontainsFunc_c (l : List (List Int)) (F : FuncId) (caps : List PV) (x : List Int) (hl : l.length ≤ 100000000) (hF : ∀ y ∈ l, FnC Try.prog F (.list (il y) :: caps) (.bool (decide (x = y)))) : FnC Try.prog 40 [.list (ll l), .fn F caps] (.bool (decide (x ∈ l))) := by
  refine fnc_of tab_ok Try.func40 rfl (by kernel_rfl) (by rw [Try.ntmps40]; exact Nat.le_add_left 2 _) ?_; rw [Try.ntmps40]
  refine qm ?_
  refine hk_region fun K hK => runs_eval tab_ok ?_
  simp only [ev0, evA, evB, evP, fl, gp, tab, simprocAttr, reduceCtorEq, reduceIte]
  refine fin_run trivial (hK _ ?_) <;> clear hK <;> clear K
  refine qa (qm ?_)
  refine hk_region fun K hK => runs_eval tab_ok ?_
  simp only [ev0, evA, evB, evP, fl, gp, tab, simprocAttr, reduceCtorEq, reduceIte]
  refine fin_stop trivial (runs_call (lindexFunc_c l F caps (fun y => decide (x = y)) hl hF) rfl rfl rfl (by simp only [dstOk, Nat.reduceLT]) (by repeat (first | exact trivial | constructor)) (runs_eval tab_ok ?_))
  simp only [ev0, evA, evB, evP, fl, gp, tab, simprocAttr, reduceCtorEq, reduceIte]
  refine fin_run trivial (hK _ ?_) <;> clear hK <;> clear K
  refine qa (qk ?_)
  simp only [Try.results40, enA, ev0, evA, evB, evP, fl, gp, tab, simprocAttr, reduceCtorEq, reduceIte]
  unfold lix
  cases hf : fst' (fun i => decide (x = l.getD i [])) l.length with
  | some i =>
    obtain ⟨h1, h2, _⟩ := fst_spec hf
    rw [decide_eq_true_eq] at h2
    rw [decide_eq_true (show x ∈ l by rw [h2]; exact getD_memR h1)]
    exact decide_eq_true (show (0 : Int) ≤ ((i : Nat) : Int) by omega)
  | none =>
    have := fst_spec0 hf
    rw [decide_eq_false (show ¬ x ∈ l from fun h => by
      obtain ⟨i, hi, rfl⟩ := List.mem_iff_getElem.1 h
      have h3 := this i hi
      simp [List.getD, List.getElem?_eq_getElem hi] at h3)]
    exact decide_eq_false (show ¬ (-1 : Int) ≥ 0 by omega)
theorem prm11_c (p q : List Int) (hp : p.length ≤ 1000000) (hq : q.length ≤ 1000000) : FnC Try.prog 41 [.list (il q), .ptr [.list (il p)]] (.bool (decide (p = q))) := by
  refine fnc_of tab_ok Try.func41 rfl (by kernel_rfl) (by rw [Try.ntmps41]; exact Nat.le_add_left 2 _) ?_; rw [Try.ntmps41]
  refine qm ?_
  refine hk_region fun K hK => runs_eval tab_ok ?_
  simp only [ev0, evA, evB, evP, fl, gp, tab, simprocAttr, reduceCtorEq, reduceIte]
  refine fin_run trivial (hK _ ?_) <;> clear hK <;> clear K
  refine qa (qm ?_)
  refine hk_region fun K hK => runs_eval tab_ok ?_
  simp only [ev0, evA, evB, evP, fl, gp, tab, simprocAttr, reduceCtorEq, reduceIte]
  refine fin_stop trivial (runs_call (equal_c p q hp hq) rfl rfl rfl (by simp only [dstOk, Nat.reduceLT]) (by repeat (first | exact trivial | constructor)) (runs_eval tab_ok ?_))
  simp only [ev0, evA, evB, evP, fl, gp, tab, simprocAttr, reduceCtorEq, reduceIte]
  refine fin_run ?_ (hK _ ?_) <;> clear hK <;> clear K
  · (first | exact trivial | omega | (simp only [In64] at *; omega) | (simp [In64] at *; omega) | (simp_all; done) | skip)
  refine qa (qk ?_)
  simp only [Try.results41, enA, ev0, evA, evB, evP, fl, gp, tab, simprocAttr, reduceCtorEq, reduceIte]
  all_goals ((first | exact rfl | exact ⟨rfl, rfl⟩ | exact ⟨rfl, rfl, rfl⟩ | exact ⟨trivial, rfl⟩ | exact ⟨Nat.le_refl _, rfl⟩ | trivial | (simp; done)))
theorem prm21_c (p q : List Int) (hp : p.length ≤ 1000000) (hq : q.length ≤ 1000000) : FnC Try.prog 49 [.list (il q), .ptr [.list (il p)]] (.bool (decide (p = q))) := by
  refine fnc_of tab_ok Try.func49 rfl (by kernel_rfl) (by rw [Try.ntmps49]; exact Nat.le_add_left 2 _) ?_; rw [Try.ntmps49]
  refine qm ?_
  refine hk_region fun K hK => runs_eval tab_ok ?_
  simp only [ev0, evA, evB, evP, fl, gp, tab, simprocAttr, reduceCtorEq, reduceIte]
  refine fin_run trivial (hK _ ?_) <;> clear hK <;> clear K
  refine qa (qm ?_)
  refine hk_region fun K hK => runs_eval tab_ok ?_
  simp only [ev0, evA, evB, evP, fl, gp, tab, simprocAttr, reduceCtorEq, reduceIte]
  refine fin_stop trivial (runs_call (equal_c p q hp hq) rfl rfl rfl (by simp only [dstOk, Nat.reduceLT]) (by repeat (first | exact trivial | constructor)) (runs_eval tab_ok ?_))
  simp only [ev0, evA, evB, evP, fl, gp, tab, simprocAttr, reduceCtorEq, reduceIte]
  refine fin_run ?_ (hK _ ?_) <;> clear hK <;> clear K
  · (first | exact trivial | omega | (simp only [In64] at *; omega) | (simp [In64] at *; omega) | (simp_all; done) | skip)
  refine qa (qk ?_)
  simp only [Try.results49, enA, ev0, evA, evB, evP, fl, gp, tab, simprocAttr, reduceCtorEq, reduceIte]
  all_goals ((first | exact rfl | exact ⟨rfl, rfl⟩ | exact ⟨rfl, rfl, rfl⟩ | exact ⟨trivial, rfl⟩ | exact ⟨Nat.le_refl _, rfl⟩ | trivial | (simp; done)))
/-- Is it one of all? -/
theorem phas_m (ls : List (List Int)) (x : List Int) (hx : x.length ≤ 1000000) (hl : ls.length ≤ 1000000) (hr : ∀ w ∈ ls, w.length ≤ 1000000) : FnM Try.prog 39 [.p (.list (il x)), .ptr 0 0] [.own [.sl 1 0 ls.length], .own (opl (ll ls))] (.p (.bool (decide (x ∈ ls)))) [.own [.sl 1 0 ls.length], .own (opl (ll ls))] := by
  have hll := ll_length ls
  refine fnm_of tab_ok Try.func39 rfl (by kernel_rfl) (by rw [Try.ntmps39]; exact Nat.le_add_left 2 _) ?_; rw [Try.ntmps39]; simp only [ancs, entA, List.length_cons, List.length_nil, List.cons_append, List.nil_append, Nat.reduceAdd, Nat.zero_add]
  refine qm ?_
  refine hk_region fun K hK => runs_eval tab_ok ?_
  simp only [ev0, evA, evB, evP, fl, gp, tab, simprocAttr, reduceCtorEq, reduceIte]
  refine fin_run ?_ (hK _ ?_) <;> clear hK <;> clear K
  · (first | exact trivial | omega | (simp only [In64] at *; omega) | (simp [In64] at *; omega) | (simp_all; done) | skip)
  refine qa (qm ?_)
  refine hk_freeze 4 rfl rfl ?_
  refine hk_pure 2 rfl (Nat.zero_le _) ?_
  refine hk_region fun K hK => runs_eval tab_ok ?_
  simp only [ev0, evA, evB, evP, fl, gp, tab, simprocAttr, reduceCtorEq, reduceIte, ll_takeL]
  refine fin_stop ?_ (runs_call (b := false) (lcontainsFunc_c ls 41 [.ptr [.list (il x)]] x (by omega) (fun y hy => prm11_c x y hx (hr y hy))) rfl (by simp only [callA, peekList, peekG, peekS, List.map_cons, List.map_nil, List.append_nil, enA, ev0, evA, evB, evP, fl, gp, tab, simprocAttr, reduceCtorEq, reduceIte, List.drop_zero, ll_takeL, opl_allP, ll_all, ll_length]; rfl) rfl (by simp only [dstOk, Nat.reduceLT]) ?_ (runs_eval tab_ok ?_))
  · (first | exact trivial | omega | (simp only [In64] at *; omega) | (simp [In64] at *; omega) | (simp_all; done) | skip)
  · (first | exact trivial | omega | (simp only [In64] at *; omega) | (simp [In64] at *; omega) | (simp_all; done) | skip)
  simp only [ev0, evA, evB, evP, fl, gp, tab, simprocAttr, reduceCtorEq, reduceIte, ll_takeL]
  refine fin_run ?_ (hK _ ?_) <;> clear hK <;> clear K
  · (first | exact trivial | omega | (simp only [In64] at *; omega) | (simp [In64] at *; omega) | (simp_all; done) | skip)
  refine qa (qk ?_)
  simp only [Try.results39, PostG, endG, rvsA, rvA, mkTup, ev0, evA, evB, evP, fl, gp, tab, simprocAttr, reduceCtorEq, reduceIte]
  all_goals (exact ⟨[0, 1, 2, 3], rfl, rfl, by simp only [leq, leA, ev0, evA, evB, evP, fl, gp, tab, simprocAttr, reduceCtorEq, reduceIte, ll_takeL] <;> trivial⟩)
theorem gnhas_m (ls : List (List Int)) (x : List Int) (hx : x.length ≤ 1000000) (hl : ls.length ≤ 1000000) (hr : ∀ w ∈ ls, w.length ≤ 1000000) : FnM Try.prog 52 [.p (.list (il x)), .ptr 0 0] [.own [.sl 1 0 ls.length], .own (opl (ll ls))] (.p (.bool (decide (x ∈ ls)))) [.own [.sl 1 0 ls.length], .own (opl (ll ls))] := by
  have hll := ll_length ls
  refine fnm_of tab_ok Try.func52 rfl (by kernel_rfl) (by rw [Try.ntmps52]; exact Nat.le_add_left 2 _) ?_; rw [Try.ntmps52]; simp only [ancs, entA, List.length_cons, List.length_nil, List.cons_append, List.nil_append, Nat.reduceAdd, Nat.zero_add]
  refine qm ?_
  refine hk_region fun K hK => runs_eval tab_ok ?_
  simp only [ev0, evA, evB, evP, fl, gp, tab, simprocAttr, reduceCtorEq, reduceIte]
  refine fin_run trivial (hK _ ?_) <;> clear hK <;> clear K
  refine qa (qm (qm ?_))
  refine hk_region fun K hK => runs_eval tab_ok ?_
  simp only [ev0, evA, evB, evP, fl, gp, tab, simprocAttr, reduceCtorEq, reduceIte]
  refine fin_run trivial (hK _ ?_) <;> clear hK <;> clear K
  refine qa (ql ?_)
  refine hk_loop (ι := Nat) (fun i => ⟨17, [(0, .p (.list (il x))), (1, .ptr 0 0), (4, .p (.int .i64 i))], [.own [.sl 1 0 ls.length], .own (opl (ll ls)), .anc 0 0, .anc 1 1]⟩) (fun i => i ≤ ls.length ∧ ∀ j, j < i → ¬ ls.getD j [] = x) (fun i => ls.length - i) 0 ⟨Nat.zero_le _, fun j hj => by omega⟩ [0, 1, 2, 3] (by simp only [leq, leA, ev0, evA, evB, evP, fl, gp, tab, simprocAttr, reduceCtorEq, reduceIte, ll_takeL] <;> trivial) fun i hi => ?_
  obtain ⟨hi1, hi2⟩ := hi
  refine qm (qm ?_)
  refine hk_region fun K hK => runs_eval tab_ok ?_
  simp only [ev0, evA, evB, evP, fl, gp, tab, simprocAttr, reduceCtorEq, reduceIte]
  refine fin_run ?_ (hK _ ?_) <;> clear hK <;> clear K
  · (first | exact trivial | omega | (simp only [In64] at *; omega) | (simp [In64] at *; omega) | (simp_all; done) | skip)
  refine qa ?_
  refine hk_cond rfl (fun hC1 => ?_) (fun hC1 => ?_)
  · (try simp only [nhs] at hC1)
    have hlt : i < ls.length := by omega
    have hg := fun d => oll_get hlt d
    have hwl := hr _ (getD_memR hlt)
    refine qh (qa (qm (ql (qm ?_))))
    refine hk_region fun K hK => runs_eval tab_ok ?_
    simp only [ev0, evA, evB, evP, fl, gp, tab, simprocAttr, reduceCtorEq, reduceIte, hg, ll_length]
    refine fin_stop ?_ (runs_call (ints_c (ls.getD i []) x (by omega)) rfl rfl rfl (by simp only [dstOk, Nat.reduceLT]) (by repeat (first | exact trivial | constructor)) (runs_eval tab_ok ?_))
    · (first | exact trivial | omega | (simp only [In64] at *; omega) | (simp [In64] at *; omega) | (simp_all; done) | skip)
    simp only [ev0, evA, evB, evP, fl, gp, tab, simprocAttr, reduceCtorEq, reduceIte, hg, ll_length]
    refine fin_run ?_ (hK _ ?_) <;> clear hK <;> clear K
    · (first | exact trivial | omega | (simp only [In64] at *; omega) | (simp [In64] at *; omega) | (simp_all; done) | skip)
    refine qa ?_
    refine hk_cond rfl (fun hC2 => ?_) (fun hC2 => ?_)
    · (try simp only [nhs] at hC2)
      refine qm ?_
      refine hk_region fun K hK => runs_eval tab_ok ?_
      simp only [ev0, evA, evB, evP, fl, gp, tab, simprocAttr, reduceCtorEq, reduceIte]
      refine fin_run trivial (hK _ ?_) <;> clear hK <;> clear K
      refine qa (qk (qe (qb (qb (qe (qb ?_))))))
      simp only [Try.results52, PostG, endG, rvsA, rvA, mkTup, ev0, evA, evB, evP, fl, gp, tab, simprocAttr, reduceCtorEq, reduceIte]
      have hin : decide (x ∈ ls) = true := decide_eq_true (by rw [← hC2]; exact getD_memR hlt)
      rw [hin]
      exact ⟨[0, 1, 2, 3], rfl, rfl, by simp only [leq, leA, ev0, evA, evB, evP, fl, gp, tab, simprocAttr, reduceCtorEq, reduceIte, ll_takeL] <;> trivial⟩
    · (try simp only [nhs] at hC2)
      refine qh (qd (qa ?_))
      refine hk_region fun K hK => runs_eval tab_ok ?_
      simp only [ev0, evA, evB, evP, fl, gp, tab, simprocAttr, reduceCtorEq, reduceIte]
      refine fin_run ?_ (hK _ ?_) <;> clear hK <;> clear K
      · (first | exact trivial | omega | (simp only [In64] at *; omega) | (simp [In64] at *; omega) | (simp_all; done) | skip)
      refine qa ?_
      refine ⟨i + 1, [0, 1, 2, 3], ⟨by omega, fun j hj => ?_⟩, by omega, ?_⟩
      · by_cases hji : j = i
        · rw [hji]; exact hC2
        · exact hi2 j (by omega)
      · simp only [leq, leA, ev0, evA, evB, evP, fl, gp, tab, simprocAttr, reduceCtorEq, reduceIte, ll_takeL] <;> first | trivial | omega
  · (try simp only [nhs] at hC1)
    refine qj (qc (qc (qf (qa (qm ?_)))))
    refine hk_region fun K hK => runs_eval tab_ok ?_
    simp only [ev0, evA, evB, evP, fl, gp, tab, simprocAttr, reduceCtorEq, reduceIte]
    refine fin_run trivial (hK _ ?_) <;> clear hK <;> clear K
    refine qa (qk ?_)
    simp only [Try.results52, PostG, endG, rvsA, rvA, mkTup, ev0, evA, evB, evP, fl, gp, tab, simprocAttr, reduceCtorEq, reduceIte]
    have hin : decide (x ∈ ls) = false := decide_eq_false fun h => by
      obtain ⟨j, hj, he⟩ := List.mem_iff_getElem.1 h
      exact hi2 j (by omega) (by simp [List.getD, List.getElem?_eq_getElem hj, he])
    rw [hin]
    exact ⟨[0, 1, 2, 3], rfl, rfl, by simp only [leq, leA, ev0, evA, evB, evP, fl, gp, tab, simprocAttr, reduceCtorEq, reduceIte, ll_takeL] <;> trivial⟩
/-- Where a product stands. -/
theorem prm2_c {T : List (List Int)} {c : Nat} (hT : T.length ≤ 60) (hp : ∀ t ∈ T, PermOk t ∧ t.length = c) {a b : Nat} (ha : a < T.length) (hb : b < T.length) : FnC Try.prog 47 [.int .i64 a, .int .i64 b, .ptr [.list (ll T)]] (.int .i64 (lix (fun y => decide (thn (T.getD a []) (T.getD b []) = y)) T)) := by
  have pa := hp _ (getD_memR ha)
  have pb := hp _ (getD_memR hb)
  have hl := pa.1.len
  refine fnc_of tab_ok Try.func47 rfl (by kernel_rfl) (by rw [Try.ntmps47]; exact Nat.le_add_left 3 _) ?_; rw [Try.ntmps47]
  refine qm ?_
  refine hk_region fun K hK => runs_eval tab_ok ?_
  simp only [ev0, evA, evB, evP, fl, gp, tab, simprocAttr, reduceCtorEq, reduceIte]
  refine fin_run trivial (hK _ ?_) <;> clear hK <;> clear K
  refine qa (qm ?_)
  refine hk_draw2 mixed fun K hK => runs2_eval tab_ok ?_
  simp only [evD, ev0, evA, evB, evP, fl, gp, tab, simprocAttr, reduceCtorEq, reduceIte, ll_length, ll_get ha, ll_get hb]
  refine fin2_stop ?_ (runs2_call (times_c pa.1 (by rw [pb.2, pa.2])) rfl rfl rfl rfl (by simp only [dstOk, Nat.reduceLT]) (by repeat (first | exact trivial | constructor)) (runs2_eval tab_ok ?_))
  · exact ⟨⟨by omega, by omega⟩, by omega, by omega⟩
  simp only [evD, ev0, evA, evB, evP, fl, gp, tab, simprocAttr, reduceCtorEq, reduceIte, ll_length, ll_get ha, ll_get hb]
  refine fin2_run ?_ (hK _ _ (by first | kernel_rfl | rfl) ?_) <;> clear hK <;> clear K
  · (first | exact trivial | omega | (simp only [In64] at *; omega) | (simp [In64] at *; omega) | (simp_all; done) | skip)
  refine qa (qm ?_)
  refine hk_freeze 0 rfl rfl ?_
  refine hk_pure 6 rfl (Nat.zero_le _) ?_
  refine hk_region fun K hK => runs_eval tab_ok ?_
  simp only [ev0, evA, evB, evP, fl, gp, tab, simprocAttr, reduceCtorEq, reduceIte]
  refine fin_stop trivial (runs_call (lindexFunc_c T 49 [.ptr [.list (il (thn (T.getD a []) (T.getD b [])))]] (fun y => decide (thn (T.getD a []) (T.getD b []) = y)) (by omega) (fun y hy => prm21_c _ y (by rw [thn_len]; omega) (by have := (hp y hy).1.len; omega))) rfl rfl rfl (by simp only [dstOk, Nat.reduceLT]) (by repeat (first | exact trivial | constructor)) (runs_eval tab_ok ?_))
  simp only [ev0, evA, evB, evP, fl, gp, tab, simprocAttr, reduceCtorEq, reduceIte]
  refine fin_run ?_ (hK _ ?_) <;> clear hK <;> clear K
  · (first | exact trivial | omega | (simp only [In64] at *; omega) | (simp [In64] at *; omega) | (simp_all; done) | skip)
  refine qa (qk ?_)
  simp only [Try.results47, enA, ev0, evA, evB, evP, fl, gp, tab, simprocAttr, reduceCtorEq, reduceIte]
  all_goals (rfl)
end Go.Proofs.Ytboadfahlflmhaa

/-
  Walks: what permutations make, by the reference. Conditions: none.
-/
set_option linter.all false
namespace Go.Proofs.Ytboadfahlflmhaa
open Go.Pv

def onA : Option (List (List Int)) → AV
  | none => .p .nil
  | some T => .sl 0 0 (ll (srtL T)).length
def onH : Option (List (List Int)) → Heap
  | none => []
  | some T => [.own (opl (ll (srtL T)))]
theorem perm_rng {p : List Int} (h : PermOk p) : ∀ x ∈ p, 0 ≤ x ∧ x < (p.length : Int) := fun x hx => by
  obtain ⟨i, hi, rfl⟩ := List.mem_iff_getElem.1 hx
  have := h.rng i hi
  simpa [List.getD, List.getElem?_eq_getElem hi] using this
theorem getD_snocR {L : List (List Int)} {x : List Int} {i : Nat} (h : i < L.length) : (L ++ [x]).getD i [] = L.getD i [] := by
  rw [List.getD_eq_getElem?_getD, List.getElem?_append_left h, ← List.getD_eq_getElem?_getD]
theorem pqrow_drop {t : List Int} {l T : List (List Int)} {k : Nat} (h : k < l.length) : pqrow t (l.drop k) T = if thn t (l.getD k []) ∈ T then pqrow t (l.drop (k + 1)) T else if T.length + 1 > 60 then none else pqrow t (l.drop (k + 1)) (T ++ [thn t (l.getD k [])]) := by
  rw [List.drop_eq_getElem_cons h, show l[k] = l.getD k [] by simp [List.getD, List.getElem?_eq_getElem h]]
  rfl
/-- Where the search stands. -/
structure PqI (l : List (List Int)) (c : Nat) (T : List (List Int)) : Prop where
  len : T.length ≤ 60
  pos : 0 < T.length
  nodup : T.Nodup
  perm : ∀ t ∈ T, PermOk t ∧ t.length = c
theorem PqI.snoc {l T : List (List Int)} {c : Nat} (h : PqI l c T) {x : List Int} (hx : PermOk x ∧ x.length = c) (hn : ¬ x ∈ T) (hl : ¬ T.length + 1 > 60) : PqI l c (T ++ [x]) where
  len := by rw [List.length_append]; simp; omega
  pos := by rw [List.length_append]; simp
  nodup := by
    rw [List.nodup_append]
    exact ⟨h.nodup, by simp, fun a ha b hb he => hn (by rw [List.mem_singleton.1 hb] at he; rw [← he]; exact ha)⟩
  perm t ht := by
    rcases List.mem_append.1 ht with ht | ht
    · exact h.perm t ht
    · rw [List.mem_singleton.1 ht]; exact hx
theorem PqI.rows {l T : List (List Int)} {c : Nat} (h : PqI l c T) : ∀ w ∈ T, w.length ≤ 1000000 := fun w hw => by
  have := (h.perm w hw).1.len
  omega

/-- Where the putting in order stands. -/
structure OrL (c : Nat) (T : List (List Int)) (i k : Nat) (V : List (List Int)) : Prop where
  perm : V.Perm T
  all : ∀ a b, a < i → a < b → b < V.length → lsb (V.getD b []) (V.getD a []) = false
  cur : ∀ b, i < b → b < k → b < V.length → lsb (V.getD b []) (V.getD i []) = false
def swR (V : List (List Int)) (i k : Nat) : List (List Int) := (V.set i (V.getD k [])).set k (V.getD i [])
theorem swR_len (V : List (List Int)) (i k : Nat) : (swR V i k).length = V.length := by simp [swR]
theorem swR_get {V : List (List Int)} {i k : Nat} (hi : i < V.length) (hk : k < V.length) (j : Nat) : (swR V i k).getD j [] = if j = k then V.getD i [] else if j = i then V.getD k [] else V.getD j [] := by
  unfold swR
  by_cases j1 : j = k
  · subst j1
    rw [if_pos rfl]
    simp [List.getD, hk]
  · rw [if_neg j1]
    by_cases j2 : j = i
    · subst j2
      rw [if_pos rfl]
      simp only [List.getD, List.getElem?_set_ne (Ne.symm j1)]
      simp [hi]
    · rw [if_neg j2]
      simp only [List.getD, List.getElem?_set_ne (Ne.symm j1), List.getElem?_set_ne (Ne.symm j2)]
theorem swR_perm {V : List (List Int)} {i k : Nat} (hi : i < V.length) (hk : k < V.length) : (swR V i k).Perm V := by
  have e1 : V.getD k [] = V[k] := by simp [List.getD, List.getElem?_eq_getElem hk]
  have e2 : V.getD i [] = V[i] := by simp [List.getD, List.getElem?_eq_getElem hi]
  unfold swR
  rw [e1, e2]
  exact List.set_set_perm hi hk
theorem OrL.len {c : Nat} {T V : List (List Int)} {i k : Nat} (h : OrL c T i k V) (hc : ∀ v ∈ T, v.length = c) {a : Nat} (ha : a < V.length) : (V.getD a []).length = c := hc _ (h.perm.mem_iff.1 (getD_memR ha))
theorem OrL.keep {c : Nat} {T V : List (List Int)} {i k : Nat} (h : OrL c T i k V) (hn : lsb (V.getD k []) (V.getD i []) = false) : OrL c T i (k + 1) V := ⟨h.perm, h.all, fun b h1 h2 h3 => by
  by_cases hb : b = k
  · rw [hb]; exact hn
  · exact h.cur b h1 (by omega) h3⟩
theorem OrL.swap {c : Nat} {T V : List (List Int)} {i k : Nat} (h : OrL c T i k V) (hc : ∀ v ∈ T, v.length = c) (hik : i < k) (hk : k < V.length) (hy : lsb (V.getD k []) (V.getD i []) = true) : OrL c T i (k + 1) (swR V i k) := by
  have hi : i < V.length := by omega
  have hli := h.len hc hi
  have hlk := h.len hc hk
  refine ⟨(swR_perm hi hk).trans h.perm, fun a b h1 h2 h3 => ?_, fun b h1 h2 h3 => ?_⟩
  · rw [swR_len] at h3
    have eA : (swR V i k).getD a [] = V.getD a [] := by rw [swR_get hi hk a, if_neg (by omega), if_neg (by omega)]
    rw [eA, swR_get hi hk b]
    by_cases b1 : b = k
    · rw [if_pos b1]; exact h.all a i h1 h1 hi
    · rw [if_neg b1]
      by_cases b2 : b = i
      · rw [if_pos b2]; exact h.all a k h1 (by omega) hk
      · rw [if_neg b2]; exact h.all a b h1 h2 h3
  · rw [swR_len] at h3
    rw [swR_get hi hk i, swR_get hi hk b, if_neg (show ¬ i = k by omega), if_pos rfl]
    by_cases b1 : b = k
    · rw [if_pos b1]; exact lsb_as hlk hli hy
    · rw [if_neg b1, if_neg (by omega)]
      exact lsb_tr (c := c) hlk hli (h.len hc h3) (lsb_as hlk hli hy) (h.cur b h1 (by omega) h3)
theorem OrL.next {c : Nat} {T V : List (List Int)} {i k : Nat} (h : OrL c T i k V) (hk : V.length ≤ k) : OrL c T (i + 1) (i + 2) V := ⟨h.perm, fun a b h1 h2 h3 => by
  by_cases ha : a = i
  · rw [ha]; exact h.cur b (by omega) (by omega) h3
  · exact h.all a b (by omega) h2 h3, fun b h1 h2 => by omega⟩
theorem OrL.sorted {c : Nat} {T V : List (List Int)} {i k : Nat} (h : OrL c T i k V) (hc : ∀ v ∈ T, v.length = c) (hi : V.length ≤ i) : V = srtL T := srtL_unique h.perm.symm (by
    refine List.pairwise_iff_getElem.2 fun a b ha hb hab hlt => ?_
    have h4 := h.all a b (by omega) hab hb
    have e1 : V.getD a [] = V[a] := by simp [List.getD, List.getElem?_eq_getElem ha]
    have e2 : V.getD b [] = V[b] := by simp [List.getD, List.getElem?_eq_getElem hb]
    rw [lsb_cmp (by rw [h.len hc hb, h.len hc ha]) (by rw [e1, e2]; exact hlt)] at h4
    cases h4)

set_option maxHeartbeats 4000000 in
theorem generated_g (l : List (List Int)) (c : Nat) (hc : c ≤ 1000) (h1 : 1 ≤ l.length) (h20 : l.length ≤ 20) (hl : ∀ q ∈ l, PermOk q ∧ q.length = c) : FnG Try.prog 18 [.list (ll l), .int .i64 60] (onA (pqcl l 61 [idr c] 0)) (onH (pqcl l 61 [idr c] 0)) := by
  have h0 := hl _ (getD_memR (show 0 < l.length by omega))
  generalize hRR : pqcl l 61 [idr c] 0 = RR
  have hI0 : PqI l c [idr c] := ⟨by simp, by simp, by simp, fun t ht => by rw [List.mem_singleton.1 ht]; exact ⟨idr_perm hc, idr_len c⟩⟩
  refine fng_of tab_ok Try.func18 rfl (by kernel_rfl) (by rw [Try.ntmps18]; exact Nat.le_add_left 2 _) ?_; rw [Try.ntmps18]
  refine qm ?_
  refine hk_region fun K hK => runs_eval tab_ok ?_
  simp only [ev0, evA, evB, evP, fl, gp, tab, simprocAttr, reduceCtorEq, reduceIte]
  refine fin_run trivial (hK _ ?_) <;> clear hK <;> clear K
  refine qa (qm ?_)
  refine hk_region fun K hK => runs_eval tab_ok ?_
  simp only [ev0, evA, evB, evP, fl, gp, tab, simprocAttr, reduceCtorEq, reduceIte, ll_length, ll_get (show 0 < l.length by omega), il_length, h0.2]
  refine fin_stop ?_ (runs_call (stays_i c (by omega)) rfl rfl rfl (by simp only [dstOk, Nat.reduceLT]) (by repeat (first | exact trivial | constructor)) (runs_op (buildOwn_does (n := 1) (l := [.list (il (idr c))]) tab_ok rfl rfl rfl rfl rfl rfl rfl ⟨⟨rfl, rfl, rfl⟩, trivial⟩ rfl (by decide) rfl) rfl (show (17 : Nat) < 90 by decide) (runs_eval tab_ok ?_)))
  · omega
  simp only [ev0, evA, evB, evP, fl, gp, tab, simprocAttr, reduceCtorEq, reduceIte]
  refine fin_run ?_ (hK _ ?_) <;> clear hK <;> clear K
  · trivial
  refine qa (qm ?_)
  refine hk_region fun K hK => runs_eval tab_ok ?_
  simp only [ev0, evA, evB, evP, fl, gp, tab, simprocAttr, reduceCtorEq, reduceIte]
  refine fin_stop ?_ (runs_op (mkCl_does rfl rfl) rfl (by simp only [dstOk, Nat.reduceLT]) (runs_eval tab_ok ?_))
  · (first | exact trivial | omega | (simp only [In64] at *; omega) | (simp [In64] at *; omega) | (simp_all; done) | skip)
  simp only [ev0, evA, evB, evP, fl, gp, tab, simprocAttr, reduceCtorEq, reduceIte]
  refine fin_run ?_ (hK _ ?_) <;> clear hK <;> clear K
  · (first | exact trivial | omega | (simp only [In64] at *; omega) | (simp [In64] at *; omega) | (simp_all; done) | skip)
  refine qa (qm (qm ?_))
  refine hk_region fun K hK => runs_eval tab_ok ?_
  simp only [ev0, evA, evB, evP, fl, gp, tab, simprocAttr, reduceCtorEq, reduceIte]
  refine fin_run trivial (hK _ ?_) <;> clear hK <;> clear K
  refine qa (ql ?_)
  refine hk_loop (ι := Nat × List (List Int)) (fun s => ⟨90, [(0, .p (.list (ll l))), (1, .p (.int .i64 60)), (5, .ptr 1 0), (6, .cl 52 [.ptr 1 0]), (7, .p (.int .i64 s.1))], [.own (opl (ll s.2)), .own [.sl 0 0 s.2.length]]⟩) (fun s => s.1 ≤ s.2.length ∧ PqI l c s.2 ∧ pqcl l (61 - s.1) s.2 s.1 = RR) (fun s => 61 - s.1) (0, [idr c]) ⟨Nat.zero_le _, hI0, hRR⟩ [0, 1] (by simp only [leq, leA, ev0, evA, evB, evP, fl, gp, tab, simprocAttr, reduceCtorEq, reduceIte, ll_takeL] <;> first | trivial | trace_state) fun s hs => ?_
  obtain ⟨i, T⟩ := s
  obtain ⟨hi, hT, hR⟩ := hs
  simp only at hi hT hR
  have hTl := hT.len
  refine qm (qm ?_)
  refine hk_region fun K hK => runs_eval tab_ok ?_
  simp only [ev0, evA, evB, evP, fl, gp, tab, simprocAttr, reduceCtorEq, reduceIte]
  refine fin_run ?_ (hK _ ?_) <;> clear hK <;> clear K
  · (first | exact trivial | omega | (simp only [In64] at *; omega) | (simp [In64] at *; omega) | (simp_all; done) | skip)
  refine qa ?_
  refine hk_cond rfl (fun hC1 => ?_) (fun hC1 => ?_)
  · (try simp only [nhs] at hC1)
    have hil : i < T.length := by omega
    rw [show 61 - i = (60 - i) + 1 by omega, pqcl, if_pos hil] at hR
    refine qh (qa (qm (ql (qm ?_))))
    refine hk_region fun K hK => runs_eval tab_ok ?_
    simp only [ev0, evA, evB, evP, fl, gp, tab, simprocAttr, reduceCtorEq, reduceIte]
    refine fin_run trivial (hK _ ?_) <;> clear hK <;> clear K
    refine qa (ql ?_)
    refine hk_loop (ι := Nat × List (List Int)) (fun s => ⟨90, [(0, .p (.list (ll l))), (1, .p (.int .i64 60)), (5, .ptr 1 0), (6, .cl 52 [.ptr 1 0]), (7, .p (.int .i64 i)), (8, .p (.int .i64 s.1))], [.own (opl (ll s.2)), .own [.sl 0 0 s.2.length]]⟩) (fun s => s.1 ≤ l.length ∧ i < s.2.length ∧ PqI l c s.2 ∧ (pqrow (s.2.getD i []) (l.drop s.1) s.2).bind (fun T' => pqcl l (60 - i) T' (i + 1)) = RR) (fun s => l.length - s.1) (0, T) ⟨Nat.zero_le _, hil, hT, hR⟩ [0, 1] (by simp only [leq, leA, ev0, evA, evB, evP, fl, gp, tab, simprocAttr, reduceCtorEq, reduceIte, ll_takeL] <;> first | trivial | trace_state) fun s hs => ?_
    obtain ⟨k, W⟩ := s
    obtain ⟨hk, hiW, hW, hRW⟩ := hs
    simp only at hk hiW hW hRW
    have hWl := hW.len
    refine qm (qm ?_)
    refine hk_region fun K hK => runs_eval tab_ok ?_
    simp only [ev0, evA, evB, evP, fl, gp, tab, simprocAttr, reduceCtorEq, reduceIte, ll_length]
    refine fin_run trivial (hK _ ?_) <;> clear hK <;> clear K
    refine qa ?_
    refine hk_cond rfl (fun hC2 => ?_) (fun hC2 => ?_)
    · (try simp only [nhs] at hC2)
      have hkl : k < l.length := by omega
      have hWi := hW.perm _ (getD_memR hiW)
      have hlk := hl _ (getD_memR hkl)
      have hgi := fun d => oll_get (ls := W) (i := i) hiW d
      have hli := hWi.1.len
      have hx : PermOk (thn (W.getD i []) (l.getD k [])) ∧ (thn (W.getD i []) (l.getD k [])).length = c := ⟨thn_perm hWi.1 hlk.1 (by rw [hlk.2, hWi.2]), by rw [thn_len]; exact hWi.2⟩
      have hxl := hx.1.len
      rw [pqrow_drop hkl] at hRW
      have hrg := perm_rng hWi.1
      refine qh (qa (qm (ql (qm ?_))))
      refine hk_draw2 mixed fun K hK => runs2_eval tab_ok ?_
      simp only [evD, ev0, evA, evB, evP, fl, gp, tab, simprocAttr, reduceCtorEq, reduceIte, hgi, ll_length, ll_get hkl]
      refine fin2_stop ?_ (runs2_call (then_c (W.getD i []) (l.getD k []) (fun x hx => by rw [hlk.2, ← hWi.2]; exact hrg x hx) (by omega) (by rw [hlk.2]; omega)) rfl rfl rfl rfl (by simp only [dstOk, Nat.reduceLT]) (by repeat (first | exact trivial | constructor)) (runs2_eval tab_ok ?_))
      · exact ⟨⟨⟨by omega, by omega⟩, hiW⟩, by omega, by omega⟩
      simp only [evD, ev0, evA, evB, evP, fl, gp, tab, simprocAttr, reduceCtorEq, reduceIte, hgi, ll_length, ll_get hkl]
      refine fin2_run ?_ (hK _ _ (by first | kernel_rfl | rfl) ?_) <;> clear hK <;> clear K
      · (first | exact trivial | omega | (simp only [In64] at *; omega) | (simp [In64] at *; omega) | (simp_all; done) | skip)
      refine qa (qm ?_)
      generalize hX : thn (W.getD i []) (l.getD k []) = X at *
      refine hk_region fun K hK => runs_eval tab_ok ?_
      simp only [ev0, evA, evB, evP, fl, gp, tab, simprocAttr, reduceCtorEq, reduceIte]
      refine fin_stop ?_ (runs_callMc [1, 0] (gnhas_m W X (by omega) (by omega) hW.rows) rfl rfl ?_ (by simp only [leA, ev0, evA, evB, evP, fl, gp, tab, simprocAttr, reduceCtorEq, reduceIte]; first | trivial | (simp only [ll_takeL]; first | trivial | (repeat constructor; done)) | (repeat constructor)) (by decide) (by first | rfl | (simp only [List.length_cons, List.length_nil, List.length_append]; decide)) (by first | rfl | (simp only [scM, opl_sc, List.all_cons, List.all_nil, List.length_cons, List.length_nil]; first | rfl | decide) | (simp [scM, scA, sc1, mpKeep, notAnc]; done)) (by simp only [dstOk, Nat.reduceLT]) (runs_eval tab_ok ?_))
      · (first | exact trivial | omega | (simp only [In64] at *; omega) | (simp [In64] at *; omega) | (simp_all; done) | skip)
      · (simp only [argsM, argM1, peekG, peekS, scA, sc1, ren, ren1, List.map_cons, List.map_nil, List.append_nil, List.cons_append, List.nil_append, enA, ev0, evA, evB, evP, fl, gp, tab, simprocAttr, reduceCtorEq, reduceIte]; try trivial)
      simp only [putM, hset, List.range', Blk.ren, ren, ren1, List.map_cons, List.map_nil, List.cons_append, List.nil_append, List.append_nil, List.length_cons, List.length_nil, ev0, evA, evB, evP, fl, gp, tab, simprocAttr, reduceCtorEq, reduceIte]
      refine fin_run trivial (hK _ ?_) <;> clear hK <;> clear K
      refine qa ?_
      refine hk_cond rfl (fun hC3 => ?_) (fun hC3 => ?_)
      · (try simp only [nhs] at hC3)
        have hnin : ¬ X ∈ W := by simpa using hC3
        refine qm ?_
        refine hk_region fun K hK => runs_eval tab_ok ?_
        simp only [ev0, evA, evB, evP, fl, gp, tab, simprocAttr, reduceCtorEq, reduceIte, ll_takeL, oll_ok, ll_snoc]
        refine fin_run ?_ (hK _ ?_) <;> clear hK <;> clear K
        · first | (simp [cellOk, PV.one]; done) | (simp [cellOk, PV.one]; omega)
        refine qa (qm ?_)
        refine hk_region fun K hK => runs_eval tab_ok ?_
        simp only [ev0, evA, evB, evP, fl, gp, tab, simprocAttr, reduceCtorEq, reduceIte, ll_length, List.length_append, List.length_cons, List.length_nil]
        refine fin_run ?_ (hK _ ?_) <;> clear hK <;> clear K
        · (first | exact trivial | omega | (simp only [In64] at *; omega) | (simp [In64] at *; omega) | (simp_all; done) | skip)
        refine qa ?_
        refine hk_cond rfl (fun hC4 => ?_) (fun hC4 => ?_)
        · (try simp only [nhs] at hC4)
          have hov : W.length + 1 > 60 := by omega
          rw [if_neg hnin, if_pos hov] at hRW
          have hRn : RR = none := by rw [← hRW]; rfl
          refine qm ?_
          refine hk_region fun K hK => runs_eval tab_ok ?_
          simp only [ev0, evA, evB, evP, fl, gp, tab, simprocAttr, reduceCtorEq, reduceIte]
          refine fin_run trivial (hK _ ?_) <;> clear hK <;> clear K
          refine qa (qk (qe (qb (qb (qe (qe (qb (qb (qe (qb ?_))))))))))
          simp only [Try.results18, PostG, endG, rvsA, rvA, mkTup, ev0, evA, evB, evP, fl, gp, tab, simprocAttr, reduceCtorEq, reduceIte]
          subst hRn
          exact ⟨[], rfl, rfl, by simp only [leq, leA, ev0, evA, evB, evP, fl, gp, tab, simprocAttr, reduceCtorEq, reduceIte] <;> first | trivial | trace_state⟩
        · (try simp only [nhs] at hC4)
          have hov : ¬ W.length + 1 > 60 := by omega
          rw [if_neg hnin, if_neg hov] at hRW
          have hgs := getD_snocR (x := X) hiW
          refine qh (qd (qa ?_))
          refine hk_region fun K hK => runs_eval tab_ok ?_
          simp only [ev0, evA, evB, evP, fl, gp, tab, simprocAttr, reduceCtorEq, reduceIte]
          refine fin_run ?_ (hK _ ?_) <;> clear hK <;> clear K
          · (first | exact trivial | omega | (simp only [In64] at *; omega) | (simp [In64] at *; omega) | (simp_all; done) | skip)
          refine qa ?_
          refine ⟨(k + 1, W ++ [X]), [2, 1], ⟨by show k + 1 ≤ _; omega, by show i < (W ++ [X]).length; rw [List.length_append]; omega, hW.snoc hx hnin hov, by show (pqrow ((W ++ [X]).getD i []) _ _).bind _ = _; rw [hgs]; exact hRW⟩, by show l.length - (k + 1) < l.length - k; omega, ?_⟩
          simp only [leq, leA, ev0, evA, evB, evP, fl, gp, tab, simprocAttr, reduceCtorEq, reduceIte, ll_takeL, ll_snoc, ll_takeS] <;> first | trivial | omega | (simp; done) | trace_state
      · (try simp only [nhs] at hC3)
        have hin : X ∈ W := by simpa using hC3
        rw [if_pos hin] at hRW
        refine qh (qd (qa ?_))
        refine hk_region fun K hK => runs_eval tab_ok ?_
        simp only [ev0, evA, evB, evP, fl, gp, tab, simprocAttr, reduceCtorEq, reduceIte]
        refine fin_run ?_ (hK _ ?_) <;> clear hK <;> clear K
        · (first | exact trivial | omega | (simp only [In64] at *; omega) | (simp [In64] at *; omega) | (simp_all; done) | skip)
        refine qa ?_
        refine ⟨(k + 1, W), [0, 1], ⟨by show k + 1 ≤ _; omega, hiW, hW, hRW⟩, by show l.length - (k + 1) < l.length - k; omega, ?_⟩
        simp only [leq, leA, ev0, evA, evB, evP, fl, gp, tab, simprocAttr, reduceCtorEq, reduceIte, ll_takeL, ll_snoc, ll_takeS] <;> first | trivial | omega | (simp; done) | trace_state
    · (try simp only [nhs] at hC2)
      have hkn : k = l.length := by omega
      have hRf : pqcl l (60 - i) W (i + 1) = RR := by
        rw [hkn, List.drop_length] at hRW
        exact hRW
      refine qj (qc (qc (qf (qd (qa ?_)))))
      refine hk_region fun K hK => runs_eval tab_ok ?_
      simp only [ev0, evA, evB, evP, fl, gp, tab, simprocAttr, reduceCtorEq, reduceIte]
      refine fin_run ?_ (hK _ ?_) <;> clear hK <;> clear K
      · (first | exact trivial | omega | (simp only [In64] at *; omega) | (simp [In64] at *; omega) | (simp_all; done) | skip)
      refine qa ?_
      refine ⟨(i + 1, W), [0, 1], ⟨by show i + 1 ≤ W.length; omega, hW, by rw [← hRf]; show pqcl l (61 - (i + 1)) W (i + 1) = _; rw [show 61 - (i + 1) = 60 - i by omega]⟩, by show 61 - (i + 1) < 61 - i; omega, ?_⟩
      simp only [leq, leA, ev0, evA, evB, evP, fl, gp, tab, simprocAttr, reduceCtorEq, reduceIte, ll_takeL, ll_snoc, ll_takeS] <;> first | trivial | omega | (simp; done) | trace_state
  · (try simp only [nhs] at hC1)
    have hin : i = T.length := by omega
    have hRs : RR = some T := by
      rw [← hR, show 61 - i = (60 - i) + 1 by omega, pqcl, if_neg (by omega)]
    refine qj (qc (qc (qf (qa (qm (qm ?_))))))
    refine hk_region fun K hK => runs_eval tab_ok ?_
    simp only [ev0, evA, evB, evP, fl, gp, tab, simprocAttr, reduceCtorEq, reduceIte]
    refine fin_run trivial (hK _ ?_) <;> clear hK <;> clear K
    refine qa (ql ?_)
    refine hk_loop (ι := Nat × List (List Int)) (fun s => ⟨90, [(5, .ptr 1 0), (10, .p (.int .i64 s.1))], [.own (opl (ll s.2)), .own [.sl 0 0 s.2.length]]⟩) (fun s => s.1 ≤ s.2.length ∧ OrL c T s.1 (s.1 + 1) s.2) (fun s => 61 - s.1) (0, T) ⟨Nat.zero_le _, ⟨.refl _, fun a b h1 => absurd h1 (Nat.not_lt_zero _), fun b h1 h2 => by have : b < 0 + 1 := h2; have : 0 < b := h1; omega⟩⟩ [0, 1] (by simp only [leq, leA, ev0, evA, evB, evP, fl, gp, tab, simprocAttr, reduceCtorEq, reduceIte, ll_takeL] <;> first | trivial | trace_state) fun s hs => ?_
    obtain ⟨a, V⟩ := s
    obtain ⟨ha, hV⟩ := hs
    simp only at ha hV
    have hVl := hV.perm.length_eq
    have hcT : ∀ v ∈ T, v.length = c := fun v hv => (hT.perm v hv).2
    refine qm (qm ?_)
    refine hk_region fun K hK => runs_eval tab_ok ?_
    simp only [ev0, evA, evB, evP, fl, gp, tab, simprocAttr, reduceCtorEq, reduceIte]
    refine fin_run ?_ (hK _ ?_) <;> clear hK <;> clear K
    · (first | exact trivial | omega | (simp only [In64] at *; omega) | (simp [In64] at *; omega) | (simp_all; done) | skip)
    refine qa ?_
    refine hk_cond rfl (fun hC5 => ?_) (fun hC5 => ?_)
    · (try simp only [nhs] at hC5)
      have hal : a < V.length := by omega
      refine qh (qa (qm (ql (qm ?_))))
      refine hk_region fun K hK => runs_eval tab_ok ?_
      simp only [ev0, evA, evB, evP, fl, gp, tab, simprocAttr, reduceCtorEq, reduceIte]
      refine fin_run ?_ (hK _ ?_) <;> clear hK <;> clear K
      · (first | exact trivial | omega | (simp only [In64] at *; omega) | (simp [In64] at *; omega) | (simp_all; done) | skip)
      refine qa (ql ?_)
      refine hk_loop (ι := Nat × List (List Int)) (fun s => ⟨90, [(5, .ptr 1 0), (10, .p (.int .i64 a)), (11, .p (.int .i64 s.1))], [.own (opl (ll s.2)), .own [.sl 0 0 s.2.length]]⟩) (fun s => a < s.1 ∧ s.1 ≤ s.2.length ∧ OrL c T a s.1 s.2) (fun s => 61 - s.1) (a + 1, V) ⟨Nat.lt_succ_self _, hal, hV⟩ [0, 1] (by simp only [leq, leA, ev0, evA, evB, evP, fl, gp, tab, simprocAttr, reduceCtorEq, reduceIte, ll_takeL] <;> first | trivial | trace_state) fun s hs => ?_
      obtain ⟨b, Y⟩ := s
      obtain ⟨hab, hb, hY⟩ := hs
      simp only at hab hb hY
      have hYl := hY.perm.length_eq
      refine qm (qm ?_)
      refine hk_region fun K hK => runs_eval tab_ok ?_
      simp only [ev0, evA, evB, evP, fl, gp, tab, simprocAttr, reduceCtorEq, reduceIte]
      refine fin_run ?_ (hK _ ?_) <;> clear hK <;> clear K
      · (first | exact trivial | omega | (simp only [In64] at *; omega) | (simp [In64] at *; omega) | (simp_all; done) | skip)
      refine qa ?_
      refine hk_cond rfl (fun hC6 => ?_) (fun hC6 => ?_)
      · (try simp only [nhs] at hC6)
        have hbl : b < Y.length := by omega
        have hga := fun d => oll_get (ls := Y) (i := a) (by omega) d
        have hgb := fun d => oll_get (ls := Y) (i := b) hbl d
        have hla := hY.len hcT (a := a) (by omega)
        have hlb := hY.len hcT (a := b) hbl
        refine qh (qa (qm (ql (qm ?_))))
        refine hk_draw mixed (by kernel_rfl) fun K hK => runs_eval tab_ok ?_
        simp only [ev0, evA, evB, evP, fl, gp, tab, simprocAttr, reduceCtorEq, reduceIte, hga, hgb, ll_length]
        refine fin_stop ?_ (runs_call (less_r (Y.getD b []) (Y.getD a []) (by omega) (by omega)) rfl rfl rfl (by simp only [dstOk, Nat.reduceLT]) (by repeat (first | exact trivial | constructor)) (runs_eval tab_ok ?_))
        · exact ⟨⟨⟨⟨by omega, by omega⟩, by omega⟩, by omega, by omega⟩, by omega⟩
        simp only [ev0, evA, evB, evP, fl, gp, tab, simprocAttr, reduceCtorEq, reduceIte, hga, hgb, ll_length]
        refine fin_run ?_ (hK _ ?_) <;> clear hK <;> clear K
        · (first | exact trivial | omega | (simp only [In64] at *; omega) | (simp [In64] at *; omega) | (simp_all; done) | skip)
        refine qa ?_
        refine hk_cond rfl (fun hC7 => ?_) (fun hC7 => ?_)
        · (try simp only [nhs] at hC7)
          refine hk_draw2 mixed fun K hK => runs2_eval tab_ok ?_
          simp only [evD, ev0, evA, evB, evP, fl, gp, tab, simprocAttr, reduceCtorEq, reduceIte, hga, hgb, ll_length, oll_set2]
          refine fin2_run ?_ (hK _ _ (by first | kernel_rfl | rfl) ?_) <;> clear hK <;> clear K
          · simp only [List.length_set]; omega
          refine qd (qa ?_)
          refine hk_region fun K hK => runs_eval tab_ok ?_
          simp only [ev0, evA, evB, evP, fl, gp, tab, simprocAttr, reduceCtorEq, reduceIte]
          refine fin_run ?_ (hK _ ?_) <;> clear hK <;> clear K
          · (first | exact trivial | omega | (simp only [In64] at *; omega) | (simp [In64] at *; omega) | (simp_all; done) | skip)
          refine qa ?_
          refine ⟨(b + 1, swR Y a b), [0, 1], ⟨by show a < b + 1; omega, by show b + 1 ≤ (swR Y a b).length; rw [swR_len]; omega, hY.swap hcT hab hbl hC7⟩, by show 61 - (b + 1) < 61 - b; omega, ?_⟩
          have hsl := swR_len Y a b
          simp only [leq, leA, ev0, evA, evB, evP, fl, gp, tab, simprocAttr, reduceCtorEq, reduceIte, ll_takeL, swR_len] <;> first | trivial | omega | (show opl (ll (swR Y a b)) = opl (List.take Y.length (ll (swR Y a b))); rw [List.take_of_length_le (by rw [ll_length, swR_len]; exact Nat.le_refl _)]; done) | trace_state
        · (try simp only [nhs] at hC7)
          refine qh (qd (qa ?_))
          refine hk_region fun K hK => runs_eval tab_ok ?_
          simp only [ev0, evA, evB, evP, fl, gp, tab, simprocAttr, reduceCtorEq, reduceIte]
          refine fin_run ?_ (hK _ ?_) <;> clear hK <;> clear K
          · (first | exact trivial | omega | (simp only [In64] at *; omega) | (simp [In64] at *; omega) | (simp_all; done) | skip)
          refine qa ?_
          refine ⟨(b + 1, Y), [0, 1], ⟨by show a < b + 1; omega, by show b + 1 ≤ Y.length; omega, hY.keep (by simpa using hC7)⟩, by show 61 - (b + 1) < 61 - b; omega, ?_⟩
          simp only [leq, leA, ev0, evA, evB, evP, fl, gp, tab, simprocAttr, reduceCtorEq, reduceIte, ll_takeL] <;> first | trivial | omega | (simp; done) | trace_state
      · (try simp only [nhs] at hC6)
        refine qj (qc (qc (qf (qd (qa ?_)))))
        refine hk_region fun K hK => runs_eval tab_ok ?_
        simp only [ev0, evA, evB, evP, fl, gp, tab, simprocAttr, reduceCtorEq, reduceIte]
        refine fin_run ?_ (hK _ ?_) <;> clear hK <;> clear K
        · (first | exact trivial | omega | (simp only [In64] at *; omega) | (simp [In64] at *; omega) | (simp_all; done) | skip)
        refine qa ?_
        refine ⟨(a + 1, Y), [0, 1], ⟨by show a + 1 ≤ Y.length; omega, hY.next (by omega)⟩, by show 61 - (a + 1) < 61 - a; omega, ?_⟩
        simp only [leq, leA, ev0, evA, evB, evP, fl, gp, tab, simprocAttr, reduceCtorEq, reduceIte, ll_takeL] <;> first | trivial | omega | (simp; done) | trace_state
    · (try simp only [nhs] at hC5)
      have hVs := hV.sorted hcT (by omega)
      refine qj (qc (qc (qf (qa (qm ?_)))))
      refine hk_region fun K hK => runs_eval tab_ok ?_
      simp only [ev0, evA, evB, evP, fl, gp, tab, simprocAttr, reduceCtorEq, reduceIte]
      refine fin_run ?_ (hK _ ?_) <;> clear hK <;> clear K
      · (first | exact trivial | omega | (simp only [In64] at *; omega) | (simp [In64] at *; omega) | (simp_all; done) | skip)
      refine qa (qk ?_)
      simp only [Try.results18, PostG, endG, rvsA, rvA, mkTup, ev0, evA, evB, evP, fl, gp, tab, simprocAttr, reduceCtorEq, reduceIte]
      subst hRs
      have hsl := (srtL_perm T).length_eq
      refine ⟨[0], ?_, rfl, ?_⟩
      · show AV.sl 0 0 _ = AV.sl 0 0 _
        rw [hVs, ll_length]
      · rw [hVs]
        simp only [leq, leA, ev0, evA, evB, evP, fl, gp, tab, simprocAttr, reduceCtorEq, reduceIte, ll_takeL, onH] <;> first | trivial | trace_state
end Go.Proofs.Ytboadfahlflmhaa
