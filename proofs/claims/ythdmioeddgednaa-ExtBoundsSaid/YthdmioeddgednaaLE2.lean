/-
  The law of bounds: bounds are cocycles, and the same as nothing; those of homomorphisms are nothing. Conditions: none.
-/
import Derived.Test.YthdmioeddgednaaE10
import Derived.Test.YthdmioeddgednaaE7
import Derived.Test.YthdmioeddgednaaH1
import Derived.Test.YthdmioeddgednaaE11
set_option linter.all false
namespace Go.Proofs.Ythdmioeddgednaa
open Go.Pv

/-- The bounds of a homomorphism are nothing. -/
theorem hom_dl {n e p : Nat} {m : List Int} (h : GT n m n e) (hp : pr p) {c : List Int} (hc : (homf n m p (tbl (fun a b => (((a + b) % p : Nat) : Int)) p) c).1 = 0) : dl n m p c = List.replicate (n * n) 0 := by
  have hp2 := hp.le
  obtain ⟨n1, e1, n2, e2, g1, g2, ⟨h1, h2, h3⟩, _⟩ := homf_ok hc
  obtain rfl : n = n1 := by have := g1.1; omega
  obtain rfl : p = n2 := by have := g2.1; omega
  apply List.ext_getElem (by rw [dl_len]; simp)
  intro t t1 t2
  rw [dl_len] at t1
  have hn : 0 < n := h.2.1.pos
  have a1 : t / n < n := (Nat.div_lt_iff_lt_mul hn).2 t1
  have a2 : t % n < n := Nat.mod_lt _ hn
  have hg := h3 _ a1 _ a2
  obtain ⟨x1, x2⟩ := h2 _ a1
  obtain ⟨y1, y2⟩ := h2 _ a2
  obtain ⟨z1, z2⟩ := h2 _ (h.2.1.lt a1 a2)
  have hop : op (tbl (fun a b => (((a + b) % p : Nat) : Int)) p) p (hv c (t / n)) (hv c (t % n)) = (hv c (t / n) + hv c (t % n)) % p := by
    unfold op; rw [tbl_get _ x2 y2]; exact Int.toNat_natCast _
  rw [hop] at hg
  have e1 := dl_get (n := n) (m := m) (p := p) (c := c) t1
  rw [List.getD_eq_getElem?_getD, List.getElem?_eq_getElem (show t < (dl n m p c).length by rw [dl_len]; exact t1), Option.getD_some] at e1
  rw [e1]
  simp only [dB, x1, y1, z1, List.getElem_replicate]
  rw [← hg]
  have : ((hv c (t / n) : Nat) : Int) + ((hv c (t % n) : Nat) : Int) = ((hv c (t / n) + hv c (t % n) : Nat) : Int) := rfl
  rw [this, Int.natCast_emod]
  have hd := Int.dvd_neg.2 (dvd_emod_sub p ((hv c (t / n) + hv c (t % n) : Nat) : Int))
  rw [show -(((hv c (t / n) + hv c (t % n) : Nat) : Int) % (p : Int) - ((hv c (t / n) + hv c (t % n) : Nat) : Int)) = ((hv c (t / n) + hv c (t % n) : Nat) : Int) - ((hv c (t / n) + hv c (t % n) : Nat) : Int) % (p : Int) by omega] at hd
  exact Int.emod_eq_zero_of_dvd hd

set_option maxHeartbeats 4000000 in
theorem extBounds_1 (N : Int) (m : List Int) (p : Int) (c : List Int) (hm : m.length ≤ 17592186043904) (hx : ¬ (xf N m p).1 = 0) : FnC Try.prog 6 [gp N m, .int .i64 p, .list (il c)] (.bool true) := by
  refine fnc_of tab_ok Try.func6 rfl (by kernel_rfl) (by rw [Try.ntmps6]; exact Nat.le_add_left 3 _) ?_; rw [Try.ntmps6]
  refine qm ?_
  refine hk_region fun K hK => runs_eval tab_ok ?_
  simp only [ev0, evA, evB, evP, fl, gp, tab, simprocAttr, reduceCtorEq, reduceIte]
  refine fin_run ?_ (hK _ ?_) <;> clear hK <;> clear K
  · (first | exact trivial | omega | (simp only [In64] at *; omega) | (simp [In64] at *; omega) | (simp_all; done) | skip)
  refine qa (qm (qm ?_))
  refine hk_region fun K hK => runs_eval tab_ok ?_
  simp only [ev0, evA, evB, evP, fl, gp, tab, simprocAttr, reduceCtorEq, reduceIte]
  refine fin_stop trivial (runs_call (begun_x) rfl rfl rfl (by simp only [dstOk, Nat.reduceLT]) (by repeat (first | exact trivial | constructor)) (runs_eval tab_ok ?_))
  simp only [ev0, evA, evB, evP, fl, gp, tab, simprocAttr, reduceCtorEq, reduceIte]
  refine fin_run trivial (hK _ ?_) <;> clear hK <;> clear K
  refine qa ?_
  refine hk_cond rfl (fun hC1 => ?_) (fun hC1 => ?_)
  · cases hC1
  · (try simp only [nhs] at hC1)
    refine qh (qa (qm ?_))
    refine hk_region fun K hK => runs_eval tab_ok ?_
    simp only [ev0, evA, evB, evP, fl, gp, tab, simprocAttr, reduceCtorEq, reduceIte]
    refine fin_stop trivial (runs_call (bound_no N m p c (by omega) hx) rfl rfl rfl (by simp only [dstOk, Nat.reduceLT]) (by repeat (first | exact trivial | constructor)) (runs_eval tab_ok ?_))
    simp only [ev0, evA, evB, evP, fl, gp, tab, simprocAttr, reduceCtorEq, reduceIte]
    refine fin_run ?_ (hK _ ?_) <;> clear hK <;> clear K
    · (first | exact trivial | omega | (simp only [In64] at *; omega) | (simp [In64] at *; omega) | (simp_all; done) | skip)
    refine qa (qm (qm ?_))
    refine hk_region fun K hK => runs_eval tab_ok ?_
    simp only [ev0, evA, evB, evP, fl, gp, tab, simprocAttr, reduceCtorEq, reduceIte]
    refine fin_run ?_ (hK _ ?_) <;> clear hK <;> clear K
    · (first | exact trivial | omega | (simp only [In64] at *; omega) | (simp [In64] at *; omega) | (simp_all; done) | skip)
    refine qa ?_
    refine hk_cond rfl (fun hC2 => ?_) (fun hC2 => ?_)
    · (try simp only [nhs] at hC2)
      refine qm ?_
      refine hk_region fun K hK => runs_eval tab_ok ?_
      simp only [ev0, evA, evB, evP, fl, gp, tab, simprocAttr, reduceCtorEq, reduceIte]
      refine fin_run trivial (hK _ ?_) <;> clear hK <;> clear K
      refine qa (qk (qb ?_))
      simp only [Try.results6, enA, ev0, evA, evB, evP, fl, gp, tab, simprocAttr, reduceCtorEq, reduceIte]
      all_goals ((first | exact rfl | exact ⟨rfl, rfl⟩ | exact ⟨rfl, rfl, rfl⟩ | exact ⟨trivial, rfl⟩ | exact ⟨Nat.le_refl _, rfl⟩ | trivial | (simp; done)))
    · (try simp only [nhs] at hC2)
      exact absurd hC2 hx

set_option maxHeartbeats 4000000 in
theorem extBounds_2 {n e p : Nat} {m : List Int} (h : GT n m n e) (hn : n ≤ 12) (hp : pr p) (c : List Int) (hl : c.length ≤ 17592186043904) (hx : ¬ (bf n p c).1 = 0) : FnC Try.prog 6 [gp n m, .int .i64 p, .list (il c)] (.bool true) := by
  refine fnc_of tab_ok Try.func6 rfl (by kernel_rfl) (by rw [Try.ntmps6]; exact Nat.le_add_left 3 _) ?_; rw [Try.ntmps6]
  refine qm ?_
  refine hk_region fun K hK => runs_eval tab_ok ?_
  simp only [ev0, evA, evB, evP, fl, gp, tab, simprocAttr, reduceCtorEq, reduceIte]
  refine fin_run ?_ (hK _ ?_) <;> clear hK <;> clear K
  · (first | exact trivial | omega | (simp only [In64] at *; omega) | (simp [In64] at *; omega) | (simp_all; done) | skip)
  refine qa (qm (qm ?_))
  refine hk_region fun K hK => runs_eval tab_ok ?_
  simp only [ev0, evA, evB, evP, fl, gp, tab, simprocAttr, reduceCtorEq, reduceIte]
  refine fin_stop trivial (runs_call (begun_x) rfl rfl rfl (by simp only [dstOk, Nat.reduceLT]) (by repeat (first | exact trivial | constructor)) (runs_eval tab_ok ?_))
  simp only [ev0, evA, evB, evP, fl, gp, tab, simprocAttr, reduceCtorEq, reduceIte]
  refine fin_run trivial (hK _ ?_) <;> clear hK <;> clear K
  refine qa ?_
  refine hk_cond rfl (fun hC1 => ?_) (fun hC1 => ?_)
  · cases hC1
  · (try simp only [nhs] at hC1)
    refine qh (qa (qm ?_))
    refine hk_region fun K hK => runs_eval tab_ok ?_
    simp only [ev0, evA, evB, evP, fl, gp, tab, simprocAttr, reduceCtorEq, reduceIte]
    refine fin_stop trivial (runs_call (bound_ok h hn hp c (by omega)) rfl rfl rfl (by simp only [dstOk, Nat.reduceLT]) (by repeat (first | exact trivial | constructor)) (runs_eval tab_ok ?_))
    simp only [ev0, evA, evB, evP, fl, gp, tab, simprocAttr, reduceCtorEq, reduceIte]
    refine fin_run ?_ (hK _ ?_) <;> clear hK <;> clear K
    · (first | exact trivial | omega | (simp only [In64] at *; omega) | (simp [In64] at *; omega) | (simp_all; done) | skip)
    refine qa (qm (qm ?_))
    refine hk_region fun K hK => runs_eval tab_ok ?_
    simp only [ev0, evA, evB, evP, fl, gp, tab, simprocAttr, reduceCtorEq, reduceIte]
    refine fin_run ?_ (hK _ ?_) <;> clear hK <;> clear K
    · (first | exact trivial | omega | (simp only [In64] at *; omega) | (simp [In64] at *; omega) | (simp_all; done) | skip)
    refine qa ?_
    refine hk_cond rfl (fun hC2 => ?_) (fun hC2 => ?_)
    · (try simp only [nhs] at hC2)
      refine qm ?_
      refine hk_region fun K hK => runs_eval tab_ok ?_
      simp only [ev0, evA, evB, evP, fl, gp, tab, simprocAttr, reduceCtorEq, reduceIte]
      refine fin_run trivial (hK _ ?_) <;> clear hK <;> clear K
      refine qa (qk (qb ?_))
      simp only [Try.results6, enA, ev0, evA, evB, evP, fl, gp, tab, simprocAttr, reduceCtorEq, reduceIte]
      all_goals ((first | exact rfl | exact ⟨rfl, rfl⟩ | exact ⟨rfl, rfl, rfl⟩ | exact ⟨trivial, rfl⟩ | exact ⟨Nat.le_refl _, rfl⟩ | trivial | (simp; done)))
    · (try simp only [nhs] at hC2)
      exact absurd hC2 hx

set_option maxHeartbeats 4000000 in
theorem extBounds_3 {n e p : Nat} {m : List Int} (h : GT n m n e) (hn : n ≤ 12) (hp : pr p) (c : List Int) (hl : c.length ≤ 17592186043904) (hx : (bf n p c).1 = 0) : FnC Try.prog 6 [gp n m, .int .i64 p, .list (il c)] (.bool true) := by
  have hp2 := hp.le
  have hsq : n * n ≤ 144 := Nat.mul_le_mul hn hn
  have hml := h.2.1.len
  have c0 : (n : Int) * (n : Int) = ((n * n : Nat) : Int) := (Int.natCast_mul n n).symm
  obtain ⟨k1, k2, k3⟩ := bf_ok hx
  have hbd : bdL n m p c = dl n m p c := by unfold bdL; rw [if_pos hx]
  have hdl := dl_len n m p c
  have z1 : (cf n m p (dl n m p c)).1 = 0 := by rw [dl_cf h hp c]
  have z2 : (cf n m p (List.replicate (n * n) 0)).1 = 0 := by rw [zero_cf h hp]
  have hs : saB n m p (dl n m p c) (List.replicate (n * n) 0) = true := (same_iff h hp z1 z2).2 ⟨fun a => c.getD a 0, fun t ht => by
    have : (List.replicate (n * n) (0 : Int)).getD t 0 = 0 := by simp [ht]
    rw [this, Int.sub_zero, dl_get ht]; exact dvd_emod_sub _ _⟩
  have hsF := saF_0 z1 z2
  have hrl : (tbl (fun a b => (((a + b) % p : Nat) : Int)) p).length ≤ 1000000000000000 := by
    rw [tbl_len]; have : p * p ≤ 49 := Nat.mul_le_mul hp2.2 hp2.2; omega
  refine fnc_of tab_ok Try.func6 rfl (by kernel_rfl) (by rw [Try.ntmps6]; exact Nat.le_add_left 3 _) ?_; rw [Try.ntmps6]
  refine qm ?_
  refine hk_region fun K hK => runs_eval tab_ok ?_
  simp only [ev0, evA, evB, evP, fl, gp, tab, simprocAttr, reduceCtorEq, reduceIte]
  refine fin_run ?_ (hK _ ?_) <;> clear hK <;> clear K
  · (first | exact trivial | omega | (simp only [In64] at *; omega) | (simp [In64] at *; omega) | (simp_all; done) | skip)
  refine qa (qm (qm ?_))
  refine hk_region fun K hK => runs_eval tab_ok ?_
  simp only [ev0, evA, evB, evP, fl, gp, tab, simprocAttr, reduceCtorEq, reduceIte]
  refine fin_stop trivial (runs_call (begun_x) rfl rfl rfl (by simp only [dstOk, Nat.reduceLT]) (by repeat (first | exact trivial | constructor)) (runs_eval tab_ok ?_))
  simp only [ev0, evA, evB, evP, fl, gp, tab, simprocAttr, reduceCtorEq, reduceIte]
  refine fin_run trivial (hK _ ?_) <;> clear hK <;> clear K
  refine qa ?_
  refine hk_cond rfl (fun hC1 => ?_) (fun hC1 => ?_)
  · cases hC1
  · (try simp only [nhs] at hC1)
    refine qh (qa (qm ?_))
    refine hk_region fun K hK => runs_eval tab_ok ?_
    simp only [ev0, evA, evB, evP, fl, gp, tab, simprocAttr, reduceCtorEq, reduceIte, hbd, k3]
    refine fin_stop trivial (runs_call (bound_ok h hn hp c (by omega)) rfl rfl rfl (by simp only [dstOk, Nat.reduceLT]) (by repeat (first | exact trivial | constructor)) (runs_eval tab_ok ?_))
    simp only [ev0, evA, evB, evP, fl, gp, tab, simprocAttr, reduceCtorEq, reduceIte, hbd, k3]
    refine fin_run ?_ (hK _ ?_) <;> clear hK <;> clear K
    · (first | exact trivial | omega | (simp only [In64] at *; omega) | (simp [In64] at *; omega) | (simp_all; done) | skip)
    refine qa (qm (qm ?_))
    refine hk_region fun K hK => runs_eval tab_ok ?_
    simp only [ev0, evA, evB, evP, fl, gp, tab, simprocAttr, reduceCtorEq, reduceIte]
    refine fin_run ?_ (hK _ ?_) <;> clear hK <;> clear K
    · (first | exact trivial | omega | (simp only [In64] at *; omega) | (simp [In64] at *; omega) | (simp_all; done) | skip)
    refine qa ?_
    refine hk_cond rfl (fun hC2 => ?_) (fun hC2 => ?_)
    · cases hC2
    · (try simp only [nhs] at hC2)
      refine qh (qa (qm ?_))
      refine hk_draw2 mixed fun K hK => runs2_eval tab_ok ?_
      simp only [evD, ev0, evA, evB, evP, fl, gp, tab, simprocAttr, reduceCtorEq, reduceIte, c0]
      refine fin2_stop ?_ (runs2_makeSlice tab_ok rfl rfl rfl rfl rfl rfl rfl rfl rfl (by simp only [dstOk, Nat.reduceLT]) ?_ (runs2_eval tab_ok ?_))
      · (first | exact trivial | omega | (simp only [In64] at *; omega) | (simp [In64] at *; omega) | (simp_all; done) | skip)
      · simp only [tab]; omega
      simp only [evD, ev0, evA, evB, evP, fl, gp, tab, simprocAttr, reduceCtorEq, reduceIte, c0]
      refine fin2_stop ?_ (runs2_callK 2 (same_ok h hn hp (dl n m p c) (List.replicate (n * n) 0) (by omega) (by simp; omega)) rfl rfl (by first | exact ol_allP _ | exact opl_allP _ | (simp only [List.drop_zero, il_append, il_take, take_app2, ol_opl, il_length]; exact opl_allP _)) (by simp only [callA, List.map_cons, List.map_nil, enA, ev0, evA, evB, evP, fl, gp, tab, simprocAttr, reduceCtorEq, reduceIte, List.drop_zero, il_append, il_take, take_app2, ol_opl, il_length, il_all, List.take_replicate, Nat.min_self]; rfl) rfl (by simp only [dstOk, Nat.reduceLT]) (by repeat (first | exact trivial | (simp [il_length, List.length_append]; done) | constructor)) (runs2_eval tab_ok ?_))
      · (first | exact trivial | omega | (simp only [In64] at *; omega) | (simp [In64] at *; omega) | (simp_all; done) | skip)
      simp only [evD, ev0, evA, evB, evP, fl, gp, tab, simprocAttr, reduceCtorEq, reduceIte, hs, hsF, c0]
      refine fin2_run ?_ (hK _ _ (by first | kernel_rfl | rfl) ?_) <;> clear hK <;> clear K
      · (first | exact trivial | omega | (simp only [In64] at *; omega) | (simp [In64] at *; omega) | (simp_all; done) | skip)
      refine qa (qm (qm ?_))
      refine hk_region fun K hK => runs_eval tab_ok ?_
      simp only [ev0, evA, evB, evP, fl, gp, tab, simprocAttr, reduceCtorEq, reduceIte, dl_cf h hp c, Bool.not_true]
      refine fin_stop trivial (runs_call (xcheck_ok h hn hp (dl n m p c) (by omega)) rfl rfl rfl (by simp only [dstOk, Nat.reduceLT]) (by repeat (first | exact trivial | constructor)) (runs_eval tab_ok ?_))
      simp only [ev0, evA, evB, evP, fl, gp, tab, simprocAttr, reduceCtorEq, reduceIte, dl_cf h hp c, Bool.not_true]
      refine fin_run ?_ (hK _ ?_) <;> clear hK <;> clear K
      · (first | exact trivial | omega | (simp only [In64] at *; omega) | (simp [In64] at *; omega) | (simp_all; done) | skip)
      refine qa ?_
      refine hk_cond rfl (fun hC3 => ?_) (fun hC3 => ?_)
      · cases hC3
      · (try simp only [nhs] at hC3)
        refine qh (qa (qm ?_))
        by_cases g9a : (homf n m p (tbl (fun a b => (((a + b) % p : Nat) : Int)) p) c).1 = 0
        · refine hk_draw2 mixed fun K hK => runs2_eval tab_ok ?_
          simp only [evD, ev0, evA, evB, evP, fl, gp, tab, simprocAttr, reduceCtorEq, reduceIte, c0, decide_eq_true g9a]
          refine fin2_stop trivial (runs2_call (ringOf_c p (by omega) (by omega)) rfl rfl rfl rfl (by simp only [dstOk, Nat.reduceLT]) (by repeat (first | exact trivial | constructor)) (runs2_eval tab_ok ?_))
          simp only [evD, ev0, evA, evB, evP, fl, gp, tab, simprocAttr, reduceCtorEq, reduceIte, c0, decide_eq_true g9a]
          refine fin2_stop trivial (runs2_call (homFault_c n m p (tbl (fun a b => (((a + b) % p : Nat) : Int)) p) c (by omega) hrl) rfl rfl rfl rfl (by simp only [dstOk, Nat.reduceLT]) (by repeat (first | exact trivial | constructor)) (runs2_eval tab_ok ?_))
          simp only [evD, ev0, evA, evB, evP, fl, gp, tab, simprocAttr, reduceCtorEq, reduceIte, c0, decide_eq_true g9a]
          refine fin2_stop ?_ (runs2_makeSlice tab_ok rfl rfl rfl rfl rfl rfl rfl rfl rfl (by simp only [dstOk, Nat.reduceLT]) ?_ (runs2_eval tab_ok ?_))
          · (first | exact trivial | omega | (simp only [In64] at *; omega) | (simp [In64] at *; omega) | (simp_all; done) | skip)
          · (first | exact trivial | omega | (simp only [In64] at *; omega) | (simp [In64] at *; omega) | (simp_all; done) | skip)
          simp only [evD, ev0, evA, evB, evP, fl, gp, tab, simprocAttr, reduceCtorEq, reduceIte, c0, decide_eq_true g9a]
          refine fin2_stop ?_ (runs2_callK 3 (ints_c (dl n m p c) (List.replicate (n * n) 0) (by omega)) rfl rfl (by first | exact ol_allP _ | exact opl_allP _ | (simp only [List.drop_zero, il_append, il_take, take_app2, ol_opl, il_length]; exact opl_allP _)) (by simp only [callA, List.map_cons, List.map_nil, enA, ev0, evA, evB, evP, fl, gp, tab, simprocAttr, reduceCtorEq, reduceIte, List.drop_zero, il_append, il_take, take_app2, ol_opl, il_length, il_all, List.take_replicate, Nat.min_self]; rfl) rfl (by simp only [dstOk, Nat.reduceLT]) (by repeat (first | exact trivial | (simp [il_length, List.length_append]; done) | constructor)) (runs2_eval tab_ok ?_))
          · (first | exact trivial | omega | (simp only [In64] at *; omega) | (simp [In64] at *; omega) | (simp_all; done) | skip)
          simp only [evD, ev0, evA, evB, evP, fl, gp, tab, simprocAttr, reduceCtorEq, reduceIte, hom_dl h hp g9a, decide_true, c0, decide_eq_true g9a]
          refine fin2_run ?_ (hK _ _ (by first | kernel_rfl | rfl) ?_) <;> clear hK <;> clear K
          · (first | exact trivial | omega | (simp only [In64] at *; omega) | (simp [In64] at *; omega) | (simp_all; done) | skip)
          refine qa (qk ?_)
          simp only [Try.results6, enA, ev0, evA, evB, evP, fl, gp, tab, simprocAttr, reduceCtorEq, reduceIte]
          all_goals ((first | exact rfl | exact ⟨rfl, rfl⟩ | exact ⟨rfl, rfl, rfl⟩ | exact ⟨trivial, rfl⟩ | exact ⟨Nat.le_refl _, rfl⟩ | trivial | (simp; done)))
        · refine hk_draw2 mixed fun K hK => runs2_eval tab_ok ?_
          simp only [evD, ev0, evA, evB, evP, fl, gp, tab, simprocAttr, reduceCtorEq, reduceIte, c0, decide_eq_false g9a]
          refine fin2_stop trivial (runs2_call (ringOf_c p (by omega) (by omega)) rfl rfl rfl rfl (by simp only [dstOk, Nat.reduceLT]) (by repeat (first | exact trivial | constructor)) (runs2_eval tab_ok ?_))
          simp only [evD, ev0, evA, evB, evP, fl, gp, tab, simprocAttr, reduceCtorEq, reduceIte, c0, decide_eq_false g9a]
          refine fin2_stop trivial (runs2_call (homFault_c n m p (tbl (fun a b => (((a + b) % p : Nat) : Int)) p) c (by omega) hrl) rfl rfl rfl rfl (by simp only [dstOk, Nat.reduceLT]) (by repeat (first | exact trivial | constructor)) (runs2_eval tab_ok ?_))
          simp only [evD, ev0, evA, evB, evP, fl, gp, tab, simprocAttr, reduceCtorEq, reduceIte, c0, decide_eq_false g9a]
          refine fin2_run ?_ (hK _ _ (by first | kernel_rfl | rfl) ?_) <;> clear hK <;> clear K
          · (first | exact trivial | omega | (simp only [In64] at *; omega) | (simp [In64] at *; omega) | (simp_all; done) | skip)
          refine qa (qk ?_)
          simp only [Try.results6, enA, ev0, evA, evB, evP, fl, gp, tab, simprocAttr, reduceCtorEq, reduceIte]
          all_goals ((first | exact rfl | exact ⟨rfl, rfl⟩ | exact ⟨rfl, rfl, rfl⟩ | exact ⟨trivial, rfl⟩ | exact ⟨Nat.le_refl _, rfl⟩ | trivial | (simp; done)))

theorem extBounds_c (N : Int) (m : List Int) (p : Int) (c : List Int) (hm : m.length ≤ 17592186043904) (hl : c.length ≤ 17592186043904) : FnC Try.prog 6 [gp N m, .int .i64 p, .list (il c)] (.bool true) := by
  by_cases hx : (xf N m p).1 = 0
  · obtain ⟨n, e, q, h, hn, rfl, hq, _⟩ := xf_ok hx
    obtain rfl := h.1
    by_cases hc : (bf n q c).1 = 0
    · exact extBounds_3 h hn hq c hl hc
    · exact extBounds_2 h hn hq c hl hc
  · exact extBounds_1 N m p c hm hx

end Go.Proofs.Ythdmioeddgednaa
