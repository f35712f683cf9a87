/-
  The law of checks: every Check, Bound and Same. Conditions: none.
-/
import Derived.Test.YthdmioeddgednaaE16
import Derived.Test.YthdmioeddgednaaE7
set_option linter.all false
namespace Go.RowKit
open Go.ChangeShapes
variable {H : Type} {enc : TypeId × Value → H} {P : Program} {w : World} {base : Nat} {spare : Nat → Bool} {held : Bool}

theorem trodAll_five {t t' t'' t3 t4 : TypeId} {args : Array Value} {ds : List (DataW H)} {ps : List MemPlace} (h : DataW.TrodAll enc P w base spare held [t, t', t'', t3, t4] args.toList ds ps) :
    ∃ v v' v'' v3 v4 d d' d'' d3 d4 p p' p'' p3 p4, args = #[v, v', v'', v3, v4] ∧ ds = [d, d', d'', d3, d4] ∧ ps = p ++ p' ++ p'' ++ p3 ++ p4 ∧ DataW.Trod enc P w base spare held t v d p ∧ DataW.Trod enc P w base spare held t' v' d' p' ∧ DataW.Trod enc P w base spare held t'' v'' d'' p'' ∧ DataW.Trod enc P w base spare held t3 v3 d3 p3 ∧ DataW.Trod enc P w base spare held t4 v4 d4 p4 := by
  obtain ⟨v, vs, d, ds', p, q, hargs, rfl, rfl, hd, hrest⟩ := trodAll_cons h
  obtain ⟨v', vs', d', ds'', p', q', rfl, rfl, rfl, hd', hrest'⟩ := trodAll_cons hrest
  obtain ⟨v'', vs'', d'', ds''', p'', q'', rfl, rfl, rfl, hd'', hrest''⟩ := trodAll_cons hrest'
  obtain ⟨v3, vs3, d3, ds3, p3, q3, rfl, rfl, rfl, hd3, hrest3⟩ := trodAll_cons hrest''
  obtain ⟨v4, vs4, d4, ds4, p4, q4, rfl, rfl, rfl, hd4, hrest4⟩ := trodAll_cons hrest3
  obtain ⟨rfl, rfl, rfl⟩ := trodAll_nil hrest4
  exact ⟨v, v', v'', v3, v4, d, d', d'', d3, d4, p, p', p'', p3, p4, by cases args; simp_all, rfl, by simp, hd, hd', hd'', hd3, hd4⟩
end Go.RowKit
namespace Go.Proofs.Ythdmioeddgednaa
open Go.Pv

theorem boundClo_c {n e p : Nat} {m : List Int} (h : GT n m n e) (hn : n ≤ 12) (hp : pr p) (c : List Int) (hc : (bf n p c).1 = 0) :
    FnC Try.prog 22 [.ptr [.int .i64 n, .list (il m)], .ptr [.int .i64 p], .ptr [.list (il c)]] (.list (il (bdL n m p c))) := by
  obtain ⟨k1, k2, _⟩ := bf_ok hc
  have hbd : bdL n m p c = dl n m p c := by unfold bdL; rw [if_pos hc]
  rw [hbd]
  refine fnc_of tab_ok Try.func22 rfl (by kernel_rfl) (by rw [Try.ntmps22]; exact Nat.le_add_left 3 _) ?_; rw [Try.ntmps22]
  refine qm ?_
  refine hk_region fun K hK => runs_eval tab_ok ?_
  simp only [ev0, evA, evB, evP, fl, gp, tab, simprocAttr, reduceCtorEq, reduceIte]
  refine fin_run trivial (hK _ ?_) <;> clear hK <;> clear K
  refine qa (qm ?_)
  refine hk_region fun K hK => runs_eval tab_ok ?_
  simp only [ev0, evA, evB, evP, fl, gp, tab, simprocAttr, reduceCtorEq, reduceIte]
  refine fin_stop trivial (runs_call (boundOf_c h hn hp c k1 k2) rfl rfl rfl (by simp only [dstOk, Nat.reduceLT]) (by repeat (first | exact trivial | constructor)) (runs_eval tab_ok ?_))
  simp only [ev0, evA, evB, evP, fl, gp, tab, simprocAttr, reduceCtorEq, reduceIte]
  refine fin_run ?_ (hK _ ?_) <;> clear hK <;> clear K
  · (first | exact trivial | omega | (simp only [In64] at *; omega) | (simp [In64] at *; omega) | (simp_all; done) | skip)
  refine qa (qk ?_)
  simp only [Try.results22, enA, ev0, evA, evB, evP, fl, gp, tab, simprocAttr, reduceCtorEq, reduceIte]
  all_goals ((first | exact rfl | exact ⟨rfl, rfl⟩ | exact ⟨rfl, rfl, rfl⟩ | exact ⟨trivial, rfl⟩ | exact ⟨Nat.le_refl _, rfl⟩ | trivial | (simp; done)))

/-- The difference of two lists. -/
def diL (f h : List Int) (p k : Nat) : List Int := rg (fun t => (f.getD t 0 + p - h.getD t 0) % (p : Int)) k

theorem same_sol {n e p : Nat} {m : List Int} (hT : GT n m n e) (hp : pr p) {f h : List Int} (hf : (cf n m p f).1 = 0) (hh : (cf n m p h).1 = 0) : saB n m p f h = true ↔ ∃ c, sol n m p (diL f h p (n * n)) c := by
  have hp2 := hp.le
  have T := hT.2.1
  rw [same_iff hT hp hf hh]
  have hdi : ∀ t, t < n * n → (p : Int) ∣ (diL f h p (n * n)).getD t 0 - (f.getD t 0 - h.getD t 0) := fun t ht => by
    unfold diL; rw [rg_get _ ht]
    have h2 := Int.dvd_add (dvd_emod_sub p (f.getD t 0 + p - h.getD t 0)) (Int.dvd_refl (p : Int))
    rwa [show (f.getD t 0 + p - h.getD t 0) % (p : Int) - (f.getD t 0 + p - h.getD t 0) + p = (f.getD t 0 + p - h.getD t 0) % (p : Int) - (f.getD t 0 - h.getD t 0) by omega] at h2
  constructor
  · rintro ⟨c, hc⟩
    have cg : ∀ a, a < n → (rg (fun a => c a % (p : Int)) n).getD a 0 = c a % (p : Int) := fun a ha => rg_get _ ha
    refine ⟨rg (fun a => c a % (p : Int)) n, rg_len _ _, fun t ht => ?_, ?_⟩
    · rw [rg_len] at ht
      rw [cg t ht]; exact emod_rng (by omega) _
    · apply List.ext_getElem (by rw [dl_len, diL, rg_len])
      intro t t1 t2
      rw [dl_len] at t1
      have e1 := dl_get (n := n) (m := m) (p := p) (c := rg (fun a => c a % (p : Int)) n) t1
      have e2 : (diL f h p (n * n)).getD t 0 = (f.getD t 0 + p - h.getD t 0) % (p : Int) := rg_get _ t1
      rw [List.getD_eq_getElem?_getD, List.getElem?_eq_getElem (show t < (dl n m p (rg (fun a => c a % (p : Int)) n)).length by rw [dl_len]; exact t1), Option.getD_some] at e1
      rw [List.getD_eq_getElem?_getD, List.getElem?_eq_getElem t2, Option.getD_some] at e2
      rw [e1, e2, emod_iff, dB_congr T cg t1]
      have hn := T.pos
      have a1 : t / n < n := (Nat.div_lt_iff_lt_mul hn).2 t1
      have a2 : t % n < n := Nat.mod_lt _ hn
      have q1 := dvd_emod_sub p (c (t / n))
      have q2 := dvd_emod_sub p (c (t % n))
      have q3 := dvd_emod_sub p (c (op m n (t / n) (t % n)))
      have q4 := hc t t1
      simp only [dB] at q4 ⊢
      have := Int.dvd_sub (Int.dvd_sub (Int.dvd_sub (Int.dvd_add q1 q2) q3) q4) (Int.dvd_refl (p : Int))
      generalize c (t / n) = u1 at *
      generalize c (t % n) = u2 at *
      generalize c (op m n (t / n) (t % n)) = u3 at *
      rwa [show u1 % (p : Int) - u1 + (u2 % (p : Int) - u2) - (u3 % (p : Int) - u3) - (f.getD t 0 - h.getD t 0 - (u1 + u2 - u3)) - p = u1 % (p : Int) + u2 % (p : Int) - u3 % (p : Int) - (f.getD t 0 + p - h.getD t 0) by omega] at this
  · rintro ⟨c, hs⟩
    refine ⟨fun a => c.getD a 0, fun t ht => ?_⟩
    have h1 := hdi t ht
    rw [← hs.2.2, dl_get ht] at h1
    have h2 := Int.dvd_sub (Int.dvd_neg.2 h1) (Int.dvd_neg.2 (dvd_emod_sub p (dB n m (fun a => c.getD a 0) t)))
    rwa [show -(dB n m (fun a => c.getD a 0) t % (p : Int) - (f.getD t 0 - h.getD t 0)) - -(dB n m (fun a => c.getD a 0) t % (p : Int) - dB n m (fun a => c.getD a 0) t) = f.getD t 0 - h.getD t 0 - dB n m (fun a => c.getD a 0) t by omega] at h2

set_option maxHeartbeats 8000000 in
theorem checks_1 (N : Int) (m : List Int) (p : Int) (f h c : List Int) (hm : m.length ≤ 17592186043904) (hl : f.length ≤ 17592186043904) (hl2 : h.length ≤ 17592186043904) (hl3 : c.length ≤ 17592186043904) (hx : ¬ (xf N m p).1 = 0) : FnC Try.prog 5 [gp N m, .int .i64 p, .list (il f), .list (il h), .list (il c)] (.bool true) := by
  refine fnc_of tab_ok Try.func5 rfl (by kernel_rfl) (by rw [Try.ntmps5]; exact Nat.le_add_left 5 _) ?_; rw [Try.ntmps5]
  refine qm ?_
  refine hk_region fun K hK => runs_eval tab_ok ?_
  simp only [ev0, evA, evB, evP, fl, gp, tab, simprocAttr, reduceCtorEq, reduceIte]
  refine fin_run ?_ (hK _ ?_) <;> clear hK <;> clear K
  · (first | exact trivial | omega | (simp only [In64] at *; omega) | (simp [In64] at *; omega) | (simp_all; done) | skip)
  refine qa (qm ?_)
  refine hk_region fun K hK => runs_eval tab_ok ?_
  simp only [ev0, evA, evB, evP, fl, gp, tab, simprocAttr, reduceCtorEq, reduceIte]
  refine fin_stop trivial (runs_call (ownGroup_c N m hm) rfl rfl rfl (by simp only [dstOk, Nat.reduceLT]) (by repeat (first | exact trivial | constructor)) (runs_eval tab_ok ?_))
  simp only [ev0, evA, evB, evP, fl, gp, tab, simprocAttr, reduceCtorEq, reduceIte]
  refine fin_run ?_ (hK _ ?_) <;> clear hK <;> clear K
  · (first | exact trivial | omega | (simp only [In64] at *; omega) | (simp [In64] at *; omega) | (simp_all; done) | skip)
  refine qa (qm ?_)
  refine hk_draw2 mixed fun K hK => runs2_eval tab_ok ?_
  simp only [evD, ev0, evA, evB, evP, fl, gp, tab, simprocAttr, reduceCtorEq, reduceIte]
  refine fin2_stop trivial (runs2_call (own_c f hl) rfl rfl rfl rfl (by simp only [dstOk, Nat.reduceLT]) (by repeat (first | exact trivial | constructor)) (runs2_eval tab_ok ?_))
  simp only [evD, ev0, evA, evB, evP, fl, gp, tab, simprocAttr, reduceCtorEq, reduceIte]
  refine fin2_stop trivial (runs2_call (xcheck_no N m p f (by omega) hx) rfl rfl rfl rfl (by simp only [dstOk, Nat.reduceLT]) (by repeat (first | exact trivial | constructor)) (runs2_eval tab_ok ?_))
  simp only [evD, ev0, evA, evB, evP, fl, gp, tab, simprocAttr, reduceCtorEq, reduceIte]
  refine fin2_run ?_ (hK _ _ (by first | kernel_rfl | rfl) ?_) <;> clear hK <;> clear K
  · (first | exact trivial | omega | (simp only [In64] at *; omega) | (simp [In64] at *; omega) | (simp_all; done) | skip)
  refine qa (qm ?_)
  refine hk_draw2 mixed fun K hK => runs2_eval tab_ok ?_
  simp only [evD, ev0, evA, evB, evP, fl, gp, tab, simprocAttr, reduceCtorEq, reduceIte]
  refine fin2_stop trivial (runs2_call (own_c c hl3) rfl rfl rfl rfl (by simp only [dstOk, Nat.reduceLT]) (by repeat (first | exact trivial | constructor)) (runs2_eval tab_ok ?_))
  simp only [evD, ev0, evA, evB, evP, fl, gp, tab, simprocAttr, reduceCtorEq, reduceIte]
  refine fin2_stop trivial (runs2_call (bound_no N m p c (by omega) hx) rfl rfl rfl rfl (by simp only [dstOk, Nat.reduceLT]) (by repeat (first | exact trivial | constructor)) (runs2_eval tab_ok ?_))
  simp only [evD, ev0, evA, evB, evP, fl, gp, tab, simprocAttr, reduceCtorEq, reduceIte]
  refine fin2_run ?_ (hK _ _ (by first | kernel_rfl | rfl) ?_) <;> clear hK <;> clear K
  · (first | exact trivial | omega | (simp only [In64] at *; omega) | (simp [In64] at *; omega) | (simp_all; done) | skip)
  refine qa (qm ?_)
  refine hk_draw2 mixed fun K hK => runs2_eval tab_ok ?_
  simp only [evD, ev0, evA, evB, evP, fl, gp, tab, simprocAttr, reduceCtorEq, reduceIte]
  refine fin2_stop trivial (runs2_call (own_c f hl) rfl rfl rfl rfl (by simp only [dstOk, Nat.reduceLT]) (by repeat (first | exact trivial | constructor)) (runs2_eval tab_ok ?_))
  simp only [evD, ev0, evA, evB, evP, fl, gp, tab, simprocAttr, reduceCtorEq, reduceIte]
  refine fin2_stop trivial (runs2_call (own_c h hl2) rfl rfl rfl rfl (by simp only [dstOk, Nat.reduceLT]) (by repeat (first | exact trivial | constructor)) (runs2_eval tab_ok ?_))
  simp only [evD, ev0, evA, evB, evP, fl, gp, tab, simprocAttr, reduceCtorEq, reduceIte]
  refine fin2_stop trivial (runs2_call (same_no N m p f h (by omega) hx) rfl rfl rfl rfl (by simp only [dstOk, Nat.reduceLT]) (by repeat (first | exact trivial | constructor)) (runs2_eval tab_ok ?_))
  simp only [evD, ev0, evA, evB, evP, fl, gp, tab, simprocAttr, reduceCtorEq, reduceIte]
  refine fin2_run ?_ (hK _ _ (by first | kernel_rfl | rfl) ?_) <;> clear hK <;> clear K
  · (first | exact trivial | omega | (simp only [In64] at *; omega) | (simp [In64] at *; omega) | (simp_all; done) | skip)
  refine qa (qm ?_)
  refine hk_region fun K hK => runs_eval tab_ok ?_
  simp only [ev0, evA, evB, evP, fl, gp, tab, simprocAttr, reduceCtorEq, reduceIte]
  refine fin_stop trivial (runs_call (extFault_c N m p (by omega)) rfl rfl rfl (by simp only [dstOk, Nat.reduceLT]) (by repeat (first | exact trivial | constructor)) (runs_eval tab_ok ?_))
  simp only [ev0, evA, evB, evP, fl, gp, tab, simprocAttr, reduceCtorEq, reduceIte]
  refine fin_run ?_ (hK _ ?_) <;> clear hK <;> clear K
  · (first | exact trivial | omega | (simp only [In64] at *; omega) | (simp [In64] at *; omega) | (simp_all; done) | skip)
  refine qa (qm (qm ?_))
  refine hk_region fun K hK => runs_eval tab_ok ?_
  simp only [ev0, evA, evB, evP, fl, gp, tab, simprocAttr, reduceCtorEq, reduceIte]
  refine fin_stop trivial (runs_call (begun_x) rfl rfl rfl (by simp only [dstOk, Nat.reduceLT]) (by repeat (first | exact trivial | constructor)) (runs_eval tab_ok ?_))
  simp only [ev0, evA, evB, evP, fl, gp, tab, simprocAttr, reduceCtorEq, reduceIte]
  refine fin_run trivial (hK _ ?_) <;> clear hK <;> clear K
  refine qa ?_
  refine hk_cond rfl (fun hC1 => ?_) (fun hC1 => ?_)
  · cases hC1
  · (try simp only [nhs] at hC1)
    refine qh (qa (qm ?_))
    refine hk_region fun K hK => runs_eval tab_ok ?_
    simp only [ev0, evA, evB, evP, fl, gp, tab, simprocAttr, reduceCtorEq, reduceIte]
    refine fin_run ?_ (hK _ ?_) <;> clear hK <;> clear K
    · (first | exact trivial | omega | (simp only [In64] at *; omega) | (simp [In64] at *; omega) | (simp_all; done) | skip)
    refine qa (qm (qm ?_))
    refine hk_region fun K hK => runs_eval tab_ok ?_
    simp only [ev0, evA, evB, evP, fl, gp, tab, simprocAttr, reduceCtorEq, reduceIte, hx]
    refine fin_run ?_ (hK _ ?_) <;> clear hK <;> clear K
    · (first | exact trivial | omega | (simp only [In64] at *; omega) | (simp [In64] at *; omega) | (simp_all; done) | skip)
    refine qa ?_
    refine hk_cond rfl (fun hC2 => ?_) (fun hC2 => ?_)
    · cases hC2
    · refine qh (qa (qm (qm ?_)))
      refine hk_region fun K hK => runs_eval tab_ok ?_
      simp only [ev0, evA, evB, evP, fl, gp, tab, simprocAttr, reduceCtorEq, reduceIte]
      refine fin_run trivial (hK _ ?_) <;> clear hK <;> clear K
      refine qa (ql ?_)
      refine hk_loop (ι := Nat) (fun i => ⟨151, [(2, .p (.list (il f))), (3, .p (.list (il h))), (5, .ptr 0 0), (6, .ptr 1 0), (9, .ptr 2 0), (12, .ptr 3 0), (13, .p (.list [])), (14, .ptr 4 0), (15, .p (.bool false)), (16, .ptr 5 0), (17, .ptr 6 0), (18, .ptr 7 0), (19, .p (.int .i64 i))], [.own [.p (.int .i64 N), .p (.list (il m))], .own [.p (.int .i64 p)], .own [.p (.list (il c))], .own [.p (.int .i64 (xf N m p).1), .p (.int .i64 (xf N m p).2)], .own [.p (.int .i64 (xf N m p).1), .p (.int .i64 (xf N m p).2)], .own [.p (.int .i64 (xf N m p).1), .p (.int .i64 (xf N m p).2)], .own [.p (.int .i64 (xf N m p).1), .p (.int .i64 (xf N m p).2)], .own [.p (.int .i64 (xf N m p).1), .p (.int .i64 (xf N m p).2)]]⟩) (fun i => i ≤ c.length) (fun i => c.length - i) 0 (Nat.zero_le _) [0, 1, 2, 4, 5, 6, 7, 8] (by simp only [leq, leA, ev0, evA, evB, evP, fl, gp, tab, simprocAttr, reduceCtorEq, reduceIte] <;> trivial) fun i hi => ?_
      refine qm (qm ?_)
      by_cases g12a : (i : Int) < (c.length : Int)
      · refine hk_region fun K hK => runs_eval tab_ok ?_
        simp only [ev0, evA, evB, evP, fl, gp, tab, simprocAttr, reduceCtorEq, reduceIte, decide_eq_true g12a]
        refine fin_run ?_ (hK _ ?_) <;> clear hK <;> clear K
        · (first | exact trivial | omega | (simp only [In64] at *; omega) | (simp [In64] at *; omega) | (simp_all; done) | skip)
        refine qa ?_
        refine hk_cond rfl (fun hC3 => ?_) (fun hC3 => ?_)
        · (try simp only [nhs] at hC3)
          exact absurd hC3 hx
        · (try simp only [nhs] at hC3)
          refine qj (qc (qc (qf (qa (qm (qm ?_))))))
          refine hk_freeze 0 rfl rfl ?_
          refine hk_freeze 1 rfl rfl ?_
          refine hk_freeze 2 rfl rfl ?_
          simp only [hset]
          refine hk_region fun K hK => runs_eval tab_ok ?_
          simp only [ev0, evA, evB, evP, fl, gp, tab, simprocAttr, reduceCtorEq, reduceIte]
          refine fin_stop trivial (runs_call (listAs_c [] (xf N m p) _ _ (by simp) (fun _ => rfl) (fun h0 => absurd h0 hx)) rfl rfl rfl (by simp only [dstOk, Nat.reduceLT]) (by repeat (first | exact trivial | constructor)) (runs_eval tab_ok ?_))
          simp only [ev0, evA, evB, evP, fl, gp, tab, simprocAttr, reduceCtorEq, reduceIte]
          refine fin_run ?_ (hK _ ?_) <;> clear hK <;> clear K
          · (first | exact trivial | omega | (simp only [In64] at *; omega) | (simp [In64] at *; omega) | (simp_all; done) | skip)
          refine qa ?_
          refine hk_cond rfl (fun hC5 => ?_) (fun hC5 => ?_)
          · cases hC5
          · (try simp only [nhs] at hC5)
            refine qh (qa (qm (qm ?_)))
            refine hk_region fun K hK => runs_eval tab_ok ?_
            simp only [ev0, evA, evB, evP, fl, gp, tab, simprocAttr, reduceCtorEq, reduceIte]
            refine fin_run ?_ (hK _ ?_) <;> clear hK <;> clear K
            · (first | exact trivial | omega | (simp only [In64] at *; omega) | (simp [In64] at *; omega) | (simp_all; done) | skip)
            refine qa ?_
            refine hk_cond rfl (fun hC6 => ?_) (fun hC6 => ?_)
            · (try simp only [nhs] at hC6)
              exact absurd hC6 hx
            · (try simp only [nhs] at hC6)
              refine qh (qa (qm (qm ?_)))
              refine hk_region fun K hK => runs_eval tab_ok ?_
              simp only [ev0, evA, evB, evP, fl, gp, tab, simprocAttr, reduceCtorEq, reduceIte, beq_self_eq_true, Bool.and_self, Bool.not_true]
              refine fin_run ?_ (hK _ ?_) <;> clear hK <;> clear K
              · (first | exact trivial | omega | (simp only [In64] at *; omega) | (simp [In64] at *; omega) | (simp_all; done) | skip)
              refine qa ?_
              refine hk_cond rfl (fun hC7 => ?_) (fun hC7 => ?_)
              · cases hC7
              · (try simp only [nhs] at hC7)
                refine qh (qa (qm (qm ?_)))
                refine hk_region fun K hK => runs_eval tab_ok ?_
                simp only [ev0, evA, evB, evP, fl, gp, tab, simprocAttr, reduceCtorEq, reduceIte]
                refine fin_run ?_ (hK _ ?_) <;> clear hK <;> clear K
                · (first | exact trivial | omega | (simp only [In64] at *; omega) | (simp [In64] at *; omega) | (simp_all; done) | skip)
                refine qa ?_
                refine hk_cond rfl (fun hC8 => ?_) (fun hC8 => ?_)
                · (try simp only [nhs] at hC8)
                  exact absurd hC8 hx
                · (try simp only [nhs] at hC8)
                  refine qh (qa (qm ?_))
                  refine hk_region fun K hK => runs_eval tab_ok ?_
                  simp only [ev0, evA, evB, evP, fl, gp, tab, simprocAttr, reduceCtorEq, reduceIte]
                  refine fin_run trivial (hK _ ?_) <;> clear hK <;> clear K
                  refine qa (qm (qm ?_))
                  refine hk_region fun K hK => runs_eval tab_ok ?_
                  simp only [ev0, evA, evB, evP, fl, gp, tab, simprocAttr, reduceCtorEq, reduceIte]
                  refine fin_run ?_ (hK _ ?_) <;> clear hK <;> clear K
                  · (first | exact trivial | omega | (simp only [In64] at *; omega) | (simp [In64] at *; omega) | (simp_all; done) | skip)
                  refine qa ?_
                  refine hk_cond rfl (fun hC9 => ?_) (fun hC9 => ?_)
                  · (try simp only [nhs] at hC9)
                    exact absurd hC9 hx
                  · (try simp only [nhs] at hC9)
                    refine qh (qa (qm ?_))
                    refine hk_region fun K hK => runs_eval tab_ok ?_
                    simp only [ev0, evA, evB, evP, fl, gp, tab, simprocAttr, reduceCtorEq, reduceIte, beq_self_eq_true, Bool.and_self]
                    refine fin_run ?_ (hK _ ?_) <;> clear hK <;> clear K
                    · (first | exact trivial | omega | (simp only [In64] at *; omega) | (simp [In64] at *; omega) | (simp_all; done) | skip)
                    refine qa (qk ?_)
                    simp only [Try.results5, enA, ev0, evA, evB, evP, fl, gp, tab, simprocAttr, reduceCtorEq, reduceIte]
                    all_goals ((first | exact rfl | exact ⟨rfl, rfl⟩ | exact ⟨rfl, rfl, rfl⟩ | exact ⟨trivial, rfl⟩ | exact ⟨Nat.le_refl _, rfl⟩ | trivial | (simp; done)))
      · refine hk_region fun K hK => runs_eval tab_ok ?_
        simp only [ev0, evA, evB, evP, fl, gp, tab, simprocAttr, reduceCtorEq, reduceIte, decide_eq_false g12a]
        refine fin_run ?_ (hK _ ?_) <;> clear hK <;> clear K
        · (first | exact trivial | omega | (simp only [In64] at *; omega) | (simp [In64] at *; omega) | (simp_all; done) | skip)
        refine qa ?_
        refine hk_cond rfl (fun hC3 => ?_) (fun hC3 => ?_)
        · cases hC3
        · refine qj (qc (qc (qf (qa (qm (qm ?_))))))
          refine hk_freeze 0 rfl rfl ?_
          refine hk_freeze 1 rfl rfl ?_
          refine hk_freeze 2 rfl rfl ?_
          simp only [hset]
          refine hk_region fun K hK => runs_eval tab_ok ?_
          simp only [ev0, evA, evB, evP, fl, gp, tab, simprocAttr, reduceCtorEq, reduceIte]
          refine fin_stop trivial (runs_call (listAs_c [] (xf N m p) _ _ (by simp) (fun _ => rfl) (fun h0 => absurd h0 hx)) rfl rfl rfl (by simp only [dstOk, Nat.reduceLT]) (by repeat (first | exact trivial | constructor)) (runs_eval tab_ok ?_))
          simp only [ev0, evA, evB, evP, fl, gp, tab, simprocAttr, reduceCtorEq, reduceIte]
          refine fin_run ?_ (hK _ ?_) <;> clear hK <;> clear K
          · (first | exact trivial | omega | (simp only [In64] at *; omega) | (simp [In64] at *; omega) | (simp_all; done) | skip)
          refine qa ?_
          refine hk_cond rfl (fun hC5 => ?_) (fun hC5 => ?_)
          · cases hC5
          · (try simp only [nhs] at hC5)
            refine qh (qa (qm (qm ?_)))
            refine hk_region fun K hK => runs_eval tab_ok ?_
            simp only [ev0, evA, evB, evP, fl, gp, tab, simprocAttr, reduceCtorEq, reduceIte]
            refine fin_run ?_ (hK _ ?_) <;> clear hK <;> clear K
            · (first | exact trivial | omega | (simp only [In64] at *; omega) | (simp [In64] at *; omega) | (simp_all; done) | skip)
            refine qa ?_
            refine hk_cond rfl (fun hC6 => ?_) (fun hC6 => ?_)
            · (try simp only [nhs] at hC6)
              exact absurd hC6 hx
            · (try simp only [nhs] at hC6)
              refine qh (qa (qm (qm ?_)))
              refine hk_region fun K hK => runs_eval tab_ok ?_
              simp only [ev0, evA, evB, evP, fl, gp, tab, simprocAttr, reduceCtorEq, reduceIte, beq_self_eq_true, Bool.and_self, Bool.not_true]
              refine fin_run ?_ (hK _ ?_) <;> clear hK <;> clear K
              · (first | exact trivial | omega | (simp only [In64] at *; omega) | (simp [In64] at *; omega) | (simp_all; done) | skip)
              refine qa ?_
              refine hk_cond rfl (fun hC7 => ?_) (fun hC7 => ?_)
              · cases hC7
              · (try simp only [nhs] at hC7)
                refine qh (qa (qm (qm ?_)))
                refine hk_region fun K hK => runs_eval tab_ok ?_
                simp only [ev0, evA, evB, evP, fl, gp, tab, simprocAttr, reduceCtorEq, reduceIte]
                refine fin_run ?_ (hK _ ?_) <;> clear hK <;> clear K
                · (first | exact trivial | omega | (simp only [In64] at *; omega) | (simp [In64] at *; omega) | (simp_all; done) | skip)
                refine qa ?_
                refine hk_cond rfl (fun hC8 => ?_) (fun hC8 => ?_)
                · (try simp only [nhs] at hC8)
                  exact absurd hC8 hx
                · (try simp only [nhs] at hC8)
                  refine qh (qa (qm ?_))
                  refine hk_region fun K hK => runs_eval tab_ok ?_
                  simp only [ev0, evA, evB, evP, fl, gp, tab, simprocAttr, reduceCtorEq, reduceIte]
                  refine fin_run trivial (hK _ ?_) <;> clear hK <;> clear K
                  refine qa (qm (qm ?_))
                  refine hk_region fun K hK => runs_eval tab_ok ?_
                  simp only [ev0, evA, evB, evP, fl, gp, tab, simprocAttr, reduceCtorEq, reduceIte]
                  refine fin_run ?_ (hK _ ?_) <;> clear hK <;> clear K
                  · (first | exact trivial | omega | (simp only [In64] at *; omega) | (simp [In64] at *; omega) | (simp_all; done) | skip)
                  refine qa ?_
                  refine hk_cond rfl (fun hC9 => ?_) (fun hC9 => ?_)
                  · (try simp only [nhs] at hC9)
                    exact absurd hC9 hx
                  · (try simp only [nhs] at hC9)
                    refine qh (qa (qm ?_))
                    refine hk_region fun K hK => runs_eval tab_ok ?_
                    simp only [ev0, evA, evB, evP, fl, gp, tab, simprocAttr, reduceCtorEq, reduceIte, beq_self_eq_true, Bool.and_self]
                    refine fin_run ?_ (hK _ ?_) <;> clear hK <;> clear K
                    · (first | exact trivial | omega | (simp only [In64] at *; omega) | (simp [In64] at *; omega) | (simp_all; done) | skip)
                    refine qa (qk ?_)
                    simp only [Try.results5, enA, ev0, evA, evB, evP, fl, gp, tab, simprocAttr, reduceCtorEq, reduceIte]
                    all_goals ((first | exact rfl | exact ⟨rfl, rfl⟩ | exact ⟨rfl, rfl, rfl⟩ | exact ⟨trivial, rfl⟩ | exact ⟨Nat.le_refl _, rfl⟩ | trivial | (simp; done)))

set_option maxHeartbeats 8000000 in
theorem checks_2 {n e p : Nat} {m : List Int} (hT : GT n m n e) (hn : n ≤ 12) (hp : pr p) (f h c : List Int) (hl : f.length ≤ 17592186043904) (hl2 : h.length ≤ 17592186043904) (hl3 : c.length ≤ 17592186043904) (hcl : ¬ c.length = n) : FnC Try.prog 5 [gp n m, .int .i64 p, .list (il f), .list (il h), .list (il c)] (.bool true) := by
  have hp2 := hp.le
  have hsq : n * n ≤ 144 := Nat.mul_le_mul hn hn
  have hml := hT.2.1.len
  have hbl : (bdL n m p c).length ≤ 1000000000000000 := by
    unfold bdL; split
    · rw [dl_len]; omega
    · simp
  have hb0 : ¬ (bf n p c).1 = 0 → bdL n m p c = [] := fun h0 => by unfold bdL; rw [if_neg h0]
  have hsF : (cf n m p f).1 = 0 → saF n m p f h = cf n m p h := fun h0 => by unfold saF; rw [if_neg (fun hh => hh h0)]
  have hsF2 : ¬ (cf n m p f).1 = 0 → saF n m p f h = cf n m p f := fun h0 => by unfold saF; rw [if_pos h0]
  have hsB : ¬ (saF n m p f h).1 = 0 → saB n m p f h = false := fun h0 => by unfold saB; rw [decide_eq_false h0]; rfl
  have hv : bf n p c = (8, 0) := by unfold bf; rw [if_pos hcl]
  refine fnc_of tab_ok Try.func5 rfl (by kernel_rfl) (by rw [Try.ntmps5]; exact Nat.le_add_left 5 _) ?_; rw [Try.ntmps5]
  refine qm ?_
  refine hk_region fun K hK => runs_eval tab_ok ?_
  simp only [ev0, evA, evB, evP, fl, gp, tab, simprocAttr, reduceCtorEq, reduceIte]
  refine fin_run ?_ (hK _ ?_) <;> clear hK <;> clear K
  · (first | exact trivial | omega | (simp only [In64] at *; omega) | (simp [In64] at *; omega) | (simp_all; done) | skip)
  refine qa (qm ?_)
  refine hk_region fun K hK => runs_eval tab_ok ?_
  simp only [ev0, evA, evB, evP, fl, gp, tab, simprocAttr, reduceCtorEq, reduceIte]
  refine fin_stop trivial (runs_call (ownGroup_c n m (by omega)) rfl rfl rfl (by simp only [dstOk, Nat.reduceLT]) (by repeat (first | exact trivial | constructor)) (runs_eval tab_ok ?_))
  simp only [ev0, evA, evB, evP, fl, gp, tab, simprocAttr, reduceCtorEq, reduceIte]
  refine fin_run ?_ (hK _ ?_) <;> clear hK <;> clear K
  · (first | exact trivial | omega | (simp only [In64] at *; omega) | (simp [In64] at *; omega) | (simp_all; done) | skip)
  refine qa (qm ?_)
  refine hk_draw2 mixed fun K hK => runs2_eval tab_ok ?_
  simp only [evD, ev0, evA, evB, evP, fl, gp, tab, simprocAttr, reduceCtorEq, reduceIte]
  refine fin2_stop trivial (runs2_call (own_c f hl) rfl rfl rfl rfl (by simp only [dstOk, Nat.reduceLT]) (by repeat (first | exact trivial | constructor)) (runs2_eval tab_ok ?_))
  simp only [evD, ev0, evA, evB, evP, fl, gp, tab, simprocAttr, reduceCtorEq, reduceIte]
  refine fin2_stop trivial (runs2_call (xcheck_ok hT hn hp f (by omega)) rfl rfl rfl rfl (by simp only [dstOk, Nat.reduceLT]) (by repeat (first | exact trivial | constructor)) (runs2_eval tab_ok ?_))
  simp only [evD, ev0, evA, evB, evP, fl, gp, tab, simprocAttr, reduceCtorEq, reduceIte]
  refine fin2_run ?_ (hK _ _ (by first | kernel_rfl | rfl) ?_) <;> clear hK <;> clear K
  · (first | exact trivial | omega | (simp only [In64] at *; omega) | (simp [In64] at *; omega) | (simp_all; done) | skip)
  refine qa (qm ?_)
  refine hk_draw2 mixed fun K hK => runs2_eval tab_ok ?_
  simp only [evD, ev0, evA, evB, evP, fl, gp, tab, simprocAttr, reduceCtorEq, reduceIte]
  refine fin2_stop trivial (runs2_call (own_c c hl3) rfl rfl rfl rfl (by simp only [dstOk, Nat.reduceLT]) (by repeat (first | exact trivial | constructor)) (runs2_eval tab_ok ?_))
  simp only [evD, ev0, evA, evB, evP, fl, gp, tab, simprocAttr, reduceCtorEq, reduceIte]
  refine fin2_stop trivial (runs2_call (bound_ok hT hn hp c (by omega)) rfl rfl rfl rfl (by simp only [dstOk, Nat.reduceLT]) (by repeat (first | exact trivial | constructor)) (runs2_eval tab_ok ?_))
  simp only [evD, ev0, evA, evB, evP, fl, gp, tab, simprocAttr, reduceCtorEq, reduceIte]
  refine fin2_run ?_ (hK _ _ (by first | kernel_rfl | rfl) ?_) <;> clear hK <;> clear K
  · (first | exact trivial | omega | (simp only [In64] at *; omega) | (simp [In64] at *; omega) | (simp_all; done) | skip)
  refine qa (qm ?_)
  refine hk_draw2 mixed fun K hK => runs2_eval tab_ok ?_
  simp only [evD, ev0, evA, evB, evP, fl, gp, tab, simprocAttr, reduceCtorEq, reduceIte]
  refine fin2_stop trivial (runs2_call (own_c f hl) rfl rfl rfl rfl (by simp only [dstOk, Nat.reduceLT]) (by repeat (first | exact trivial | constructor)) (runs2_eval tab_ok ?_))
  simp only [evD, ev0, evA, evB, evP, fl, gp, tab, simprocAttr, reduceCtorEq, reduceIte]
  refine fin2_stop trivial (runs2_call (own_c h hl2) rfl rfl rfl rfl (by simp only [dstOk, Nat.reduceLT]) (by repeat (first | exact trivial | constructor)) (runs2_eval tab_ok ?_))
  simp only [evD, ev0, evA, evB, evP, fl, gp, tab, simprocAttr, reduceCtorEq, reduceIte]
  refine fin2_stop trivial (runs2_call (same_ok hT hn hp f h (by omega) (by omega)) rfl rfl rfl rfl (by simp only [dstOk, Nat.reduceLT]) (by repeat (first | exact trivial | constructor)) (runs2_eval tab_ok ?_))
  simp only [evD, ev0, evA, evB, evP, fl, gp, tab, simprocAttr, reduceCtorEq, reduceIte]
  refine fin2_run ?_ (hK _ _ (by first | kernel_rfl | rfl) ?_) <;> clear hK <;> clear K
  · (first | exact trivial | omega | (simp only [In64] at *; omega) | (simp [In64] at *; omega) | (simp_all; done) | skip)
  refine qa (qm ?_)
  refine hk_region fun K hK => runs_eval tab_ok ?_
  simp only [ev0, evA, evB, evP, fl, gp, tab, simprocAttr, reduceCtorEq, reduceIte, xf_of hT hn hp]
  refine fin_stop trivial (runs_call (extFault_c n m p (by omega)) rfl rfl rfl (by simp only [dstOk, Nat.reduceLT]) (by repeat (first | exact trivial | constructor)) (runs_eval tab_ok ?_))
  simp only [ev0, evA, evB, evP, fl, gp, tab, simprocAttr, reduceCtorEq, reduceIte, xf_of hT hn hp]
  refine fin_run ?_ (hK _ ?_) <;> clear hK <;> clear K
  · (first | exact trivial | omega | (simp only [In64] at *; omega) | (simp [In64] at *; omega) | (simp_all; done) | skip)
  refine qa (qm (qm ?_))
  refine hk_region fun K hK => runs_eval tab_ok ?_
  simp only [ev0, evA, evB, evP, fl, gp, tab, simprocAttr, reduceCtorEq, reduceIte]
  refine fin_stop trivial (runs_call (begun_x) rfl rfl rfl (by simp only [dstOk, Nat.reduceLT]) (by repeat (first | exact trivial | constructor)) (runs_eval tab_ok ?_))
  simp only [ev0, evA, evB, evP, fl, gp, tab, simprocAttr, reduceCtorEq, reduceIte]
  refine fin_run trivial (hK _ ?_) <;> clear hK <;> clear K
  refine qa ?_
  refine hk_cond rfl (fun hC1 => ?_) (fun hC1 => ?_)
  · cases hC1
  · (try simp only [nhs] at hC1)
    refine qh (qa (qm ?_))
    refine hk_region fun K hK => runs_eval tab_ok ?_
    simp only [ev0, evA, evB, evP, fl, gp, tab, simprocAttr, reduceCtorEq, reduceIte]
    refine fin_run ?_ (hK _ ?_) <;> clear hK <;> clear K
    · (first | exact trivial | omega | (simp only [In64] at *; omega) | (simp [In64] at *; omega) | (simp_all; done) | skip)
    refine qa (qm (qm ?_))
    refine hk_region fun K hK => runs_eval tab_ok ?_
    simp only [ev0, evA, evB, evP, fl, gp, tab, simprocAttr, reduceCtorEq, reduceIte]
    refine fin_run ?_ (hK _ ?_) <;> clear hK <;> clear K
    · (first | exact trivial | omega | (simp only [In64] at *; omega) | (simp [In64] at *; omega) | (simp_all; done) | skip)
    refine qa ?_
    refine hk_cond rfl (fun hC2 => ?_) (fun hC2 => ?_)
    · (try simp only [nhs] at hC2)
      refine hk_region fun K hK => runs_eval tab_ok ?_
      simp only [ev0, evA, evB, evP, fl, gp, tab, simprocAttr, reduceCtorEq, reduceIte]
      refine fin_stop trivial (runs_call (f_c 8 0) rfl rfl rfl (by simp only [dstOk, Nat.reduceLT]) (by repeat (first | exact trivial | constructor)) (runs_eval tab_ok ?_))
      simp only [ev0, evA, evB, evP, fl, gp, tab, simprocAttr, reduceCtorEq, reduceIte]
      refine fin_run ?_ (hK _ ?_) <;> clear hK <;> clear K
      · (first | exact trivial | omega | (simp only [In64] at *; omega) | (simp [In64] at *; omega) | (simp_all; done) | skip)
      refine qa (qm (qm ?_))
      refine hk_region fun K hK => runs_eval tab_ok ?_
      simp only [ev0, evA, evB, evP, fl, gp, tab, simprocAttr, reduceCtorEq, reduceIte]
      refine fin_run trivial (hK _ ?_) <;> clear hK <;> clear K
      refine qa (ql ?_)
      refine hk_loop (ι := Nat) (fun i => ⟨151, [(2, .p (.list (il f))), (3, .p (.list (il h))), (5, .ptr 0 0), (6, .ptr 1 0), (9, .ptr 2 0), (12, .ptr 3 0), (13, .p (.list (il (bdL n m p c)))), (14, .ptr 4 0), (15, .p (.bool (saB n m p f h))), (16, .ptr 5 0), (17, .ptr 6 0), (18, .ptr 7 0), (19, .p (.int .i64 i))], [.own [.p (.int .i64 n), .p (.list (il m))], .own [.p (.int .i64 p)], .own [.p (.list (il c))], .own [.p (.int .i64 (cf n m p f).1), .p (.int .i64 (cf n m p f).2)], .own [.p (.int .i64 (bf n p c).1), .p (.int .i64 (bf n p c).2)], .own [.p (.int .i64 (saF n m p f h).1), .p (.int .i64 (saF n m p f h).2)], .own [.p (.int .i64 0), .p (.int .i64 0)], .own [.p (.int .i64 8), .p (.int .i64 0)]]⟩) (fun i => i ≤ c.length) (fun i => c.length - i) 0 (Nat.zero_le _) [0, 1, 2, 4, 5, 6, 7, 8] (by simp only [leq, leA, ev0, evA, evB, evP, fl, gp, tab, simprocAttr, reduceCtorEq, reduceIte] <;> trivial) fun i hi => ?_
      refine qm (qm ?_)
      by_cases g12a : (i : Int) < (c.length : Int)
      · refine hk_region fun K hK => runs_eval tab_ok ?_
        simp only [ev0, evA, evB, evP, fl, gp, tab, simprocAttr, reduceCtorEq, reduceIte, decide_eq_true g12a]
        refine fin_run ?_ (hK _ ?_) <;> clear hK <;> clear K
        · (first | exact trivial | omega | (simp only [In64] at *; omega) | (simp [In64] at *; omega) | (simp_all; done) | skip)
        refine qa ?_
        refine hk_cond rfl (fun hC3 => ?_) (fun hC3 => ?_)
        · cases hC3
        · (try simp only [nhs] at hC3)
          refine qj (qc (qc (qf (qa (qm (qm ?_))))))
          refine hk_freeze 0 rfl rfl ?_
          refine hk_freeze 1 rfl rfl ?_
          refine hk_freeze 2 rfl rfl ?_
          simp only [hset]
          refine hk_region fun K hK => runs_eval tab_ok ?_
          simp only [ev0, evA, evB, evP, fl, gp, tab, simprocAttr, reduceCtorEq, reduceIte, hv]
          refine fin_stop trivial (runs_call (listAs_c (bdL n m p c) (8, 0) _ _ hbl (fun _ => hb0 (by rw [hv]; simp)) (fun h0 => by simp at h0)) rfl rfl rfl (by simp only [dstOk, Nat.reduceLT]) (by repeat (first | exact trivial | constructor)) (runs_eval tab_ok ?_))
          simp only [ev0, evA, evB, evP, fl, gp, tab, simprocAttr, reduceCtorEq, reduceIte, hv]
          refine fin_run ?_ (hK _ ?_) <;> clear hK <;> clear K
          · (first | exact trivial | omega | (simp only [In64] at *; omega) | (simp [In64] at *; omega) | (simp_all; done) | skip)
          refine qa ?_
          refine hk_cond rfl (fun hC5 => ?_) (fun hC5 => ?_)
          · cases hC5
          · (try simp only [nhs] at hC5)
            refine qh (qa (qm (qm ?_)))
            refine hk_region fun K hK => runs_eval tab_ok ?_
            simp only [ev0, evA, evB, evP, fl, gp, tab, simprocAttr, reduceCtorEq, reduceIte]
            refine fin_run ?_ (hK _ ?_) <;> clear hK <;> clear K
            · (first | exact trivial | omega | (simp only [In64] at *; omega) | (simp [In64] at *; omega) | (simp_all; done) | skip)
            refine qa ?_
            refine hk_cond rfl (fun hC6 => ?_) (fun hC6 => ?_)
            · (try simp only [nhs] at hC6)
              refine hk_region fun K hK => runs_eval tab_ok ?_
              simp only [ev0, evA, evB, evP, fl, gp, tab, simprocAttr, reduceCtorEq, reduceIte]
              refine fin_stop trivial (runs_call (cocF_c hT hn hp f (by omega)) rfl rfl rfl (by simp only [dstOk, Nat.reduceLT]) (by repeat (first | exact trivial | constructor)) (runs_eval tab_ok ?_))
              simp only [ev0, evA, evB, evP, fl, gp, tab, simprocAttr, reduceCtorEq, reduceIte]
              refine fin_run ?_ (hK _ ?_) <;> clear hK <;> clear K
              · (first | exact trivial | omega | (simp only [In64] at *; omega) | (simp [In64] at *; omega) | (simp_all; done) | skip)
              refine qa (qm (qm ?_))
              refine hk_region fun K hK => runs_eval tab_ok ?_
              simp only [ev0, evA, evB, evP, fl, gp, tab, simprocAttr, reduceCtorEq, reduceIte, beq_self_eq_true, Bool.and_self, Bool.not_true]
              refine fin_run ?_ (hK _ ?_) <;> clear hK <;> clear K
              · (first | exact trivial | omega | (simp only [In64] at *; omega) | (simp [In64] at *; omega) | (simp_all; done) | skip)
              refine qa ?_
              refine hk_cond rfl (fun hC7 => ?_) (fun hC7 => ?_)
              · cases hC7
              · (try simp only [nhs] at hC7)
                refine qh (qa (qm (qm ?_)))
                refine hk_region fun K hK => runs_eval tab_ok ?_
                simp only [ev0, evA, evB, evP, fl, gp, tab, simprocAttr, reduceCtorEq, reduceIte]
                refine fin_run ?_ (hK _ ?_) <;> clear hK <;> clear K
                · (first | exact trivial | omega | (simp only [In64] at *; omega) | (simp [In64] at *; omega) | (simp_all; done) | skip)
                refine qa ?_
                refine hk_cond rfl (fun hC8 => ?_) (fun hC8 => ?_)
                · (try simp only [nhs] at hC8)
                  refine hk_region fun K hK => runs_eval tab_ok ?_
                  simp only [ev0, evA, evB, evP, fl, gp, tab, simprocAttr, reduceCtorEq, reduceIte]
                  refine fin_stop trivial (runs_call (cocF_c hT hn hp h (by omega)) rfl rfl rfl (by simp only [dstOk, Nat.reduceLT]) (by repeat (first | exact trivial | constructor)) (runs_eval tab_ok ?_))
                  simp only [ev0, evA, evB, evP, fl, gp, tab, simprocAttr, reduceCtorEq, reduceIte]
                  refine fin_run ?_ (hK _ ?_) <;> clear hK <;> clear K
                  · (first | exact trivial | omega | (simp only [In64] at *; omega) | (simp [In64] at *; omega) | (simp_all; done) | skip)
                  refine qa (qm ?_)
                  refine hk_region fun K hK => runs_eval tab_ok ?_
                  simp only [ev0, evA, evB, evP, fl, gp, tab, simprocAttr, reduceCtorEq, reduceIte]
                  refine fin_run trivial (hK _ ?_) <;> clear hK <;> clear K
                  refine qa (qm (qm ?_))
                  refine hk_region fun K hK => runs_eval tab_ok ?_
                  simp only [ev0, evA, evB, evP, fl, gp, tab, simprocAttr, reduceCtorEq, reduceIte]
                  refine fin_run ?_ (hK _ ?_) <;> clear hK <;> clear K
                  · (first | exact trivial | omega | (simp only [In64] at *; omega) | (simp [In64] at *; omega) | (simp_all; done) | skip)
                  refine qa ?_
                  refine hk_cond rfl (fun hC9 => ?_) (fun hC9 => ?_)
                  · (try simp only [nhs] at hC9)
                    have hf0 : (cf n m p f).1 = 0 := hC8
                    have hh0 : (cf n m p h).1 = 0 := hC9
                    obtain ⟨f1, f2, _, _⟩ := cf_0 hf0
                    obtain ⟨h1, h2, _, _⟩ := cf_0 hh0
                    have hF := hsF hC8
                    have hdl : ∀ k, (diL f h p k).length = k := fun k => rg_len _ _
                    have hdr : rng p (diL f h p (n * n)) := fun t ht => by
                      rw [hdl] at ht
                      unfold diL; rw [rg_get _ ht]; exact emod_rng (by omega) _
                    refine qm ?_
                    refine hk_region fun K hK => runs_eval tab_ok ?_
                    simp only [ev0, evA, evB, evP, fl, gp, tab, simprocAttr, reduceCtorEq, reduceIte]
                    refine fin_run trivial (hK _ ?_) <;> clear hK <;> clear K
                    refine qa (qm (qm ?_))
                    refine hk_own0 21 rfl ?_
                    refine hk_region fun K hK => runs_eval tab_ok ?_
                    simp only [ev0, evA, evB, evP, fl, gp, tab, simprocAttr, reduceCtorEq, reduceIte]
                    refine fin_run trivial (hK _ ?_) <;> clear hK <;> clear K
                    refine qa (ql ?_)
                    refine hk_loop (ι := Nat) (fun k => ⟨151, [(2, .p (.list (il f))), (3, .p (.list (il h))), (5, .ptr 0 0), (6, .ptr 1 0), (15, .p (.bool (saB n m p f h))), (16, .ptr 2 0), (17, .ptr 3 0), (21, .sl 4 0 (diL f h p k).length), (22, .p (.int .i64 k))], [.fro [.int .i64 n, .list (il m)], .fro [.int .i64 p], .own [.p (.int .i64 (saF n m p f h).1), .p (.int .i64 (saF n m p f h).2)], .own [.p (.int .i64 (cf n m p h).1), .p (.int .i64 (cf n m p h).2)], .own (ol (diL f h p k))]⟩) (fun k => k ≤ n * n) (fun k => n * n - k) 0 (Nat.zero_le _) [0, 1, 5, 6, 8] (by simp only [leq, leA, ev0, evA, evB, evP, fl, gp, tab, simprocAttr, reduceCtorEq, reduceIte] <;> simp [diL, rg, ol_nil]) fun k hk => ?_
                    refine qm (qm ?_)
                    refine hk_region fun K hK => runs_eval tab_ok ?_
                    simp only [ev0, evA, evB, evP, fl, gp, tab, simprocAttr, reduceCtorEq, reduceIte]
                    refine fin_run trivial (hK _ ?_) <;> clear hK <;> clear K
                    refine qa ?_
                    refine hk_cond rfl (fun hC10 => ?_) (fun hC10 => ?_)
                    · (try simp only [nhs] at hC10)
                      have hkl : k < n * n := by omega
                      have b1 := f2 k (by omega)
                      have b2 := h2 k (by omega)
                      have hl' := hdl k
                      have tm : Int.tmod (f.getD k 0 + p - h.getD k 0) p = (f.getD k 0 + p - h.getD k 0) % (p : Int) := Int.tmod_eq_emod_of_nonneg (by omega)
                      refine qh (qa (qm (ql ?_)))
                      refine hk_draw mixed (by kernel_rfl) fun K hK => runs_eval tab_ok ?_
                      simp only [ev0, evA, evB, evP, fl, gp, tab, simprocAttr, reduceCtorEq, reduceIte, il_get (show k < f.length by omega), il_get (show k < h.length by omega), tm]
                      refine fin_run ?_ (hK _ ?_) <;> clear hK <;> clear K
                      · (first | exact trivial | omega | (simp only [In64] at *; omega) | (simp [In64] at *; omega) | (simp_all; done) | skip)
                      refine qd (qa ?_)
                      refine hk_region fun K hK => runs_eval tab_ok ?_
                      simp only [ev0, evA, evB, evP, fl, gp, tab, simprocAttr, reduceCtorEq, reduceIte]
                      refine fin_run ?_ (hK _ ?_) <;> clear hK <;> clear K
                      · (first | exact trivial | omega | (simp only [In64] at *; omega) | (simp [In64] at *; omega) | (simp_all; done) | skip)
                      refine qa ?_
                      refine ⟨k + 1, [0, 1, 2, 3, 5], by omega, by omega, ?_⟩
                      rw [show diL f h p (k + 1) = diL f h p k ++ [(f.getD k 0 + p - h.getD k 0) % (p : Int)] from rg_succ _ _]
                      simp only [leq, leA, ev0, evA, evB, evP, fl, gp, tab, simprocAttr, reduceCtorEq, reduceIte] <;> first | trivial | omega
                    · (try simp only [nhs] at hC10)
                      refine qj (qc (qc (qf (qa ?_))))
                      have hkn : k = n * n := by omega
                      subst hkn
                      refine hk_seal 21 4 (w := diL f h p (n * n)) rfl rfl ?_
                      refine hk_region fun K hK => runs_eval tab_ok ?_
                      simp only [ev0, evA, evB, evP, fl, gp, tab, simprocAttr, reduceCtorEq, reduceIte]
                      refine fin_stop trivial (runs_call (solved_c hT hn hp (diL f h p (n * n)) (hdl _) hdr (saB n m p f h) (same_sol hT hp hf0 hh0)) rfl rfl rfl (by simp only [dstOk, Nat.reduceLT]) (by repeat (first | exact trivial | constructor)) (runs_eval tab_ok ?_))
                      simp only [ev0, evA, evB, evP, fl, gp, tab, simprocAttr, reduceCtorEq, reduceIte]
                      refine fin_run ?_ (hK _ ?_) <;> clear hK <;> clear K
                      · (first | exact trivial | omega | (simp only [In64] at *; omega) | (simp [In64] at *; omega) | (simp_all; done) | skip)
                      refine qa (qm ?_)
                      refine hk_region fun K hK => runs_eval tab_ok ?_
                      simp only [ev0, evA, evB, evP, fl, gp, tab, simprocAttr, reduceCtorEq, reduceIte, hF, beq_self_eq_true, Bool.and_self]
                      refine fin_run ?_ (hK _ ?_) <;> clear hK <;> clear K
                      · (first | exact trivial | omega | (simp only [In64] at *; omega) | (simp [In64] at *; omega) | (simp_all; done) | skip)
                      refine qa (qk ?_)
                      simp only [Try.results5, enA, ev0, evA, evB, evP, fl, gp, tab, simprocAttr, reduceCtorEq, reduceIte]
                      all_goals ((first | exact rfl | exact ⟨rfl, rfl⟩ | exact ⟨rfl, rfl, rfl⟩ | exact ⟨trivial, rfl⟩ | exact ⟨Nat.le_refl _, rfl⟩ | trivial | (simp; done)))
                  · (try simp only [nhs] at hC9)
                    have hF := hsF hC8
                    have hB := hsB (by rw [hF]; exact hC9)
                    refine qh (qa (qm ?_))
                    refine hk_region fun K hK => runs_eval tab_ok ?_
                    simp only [ev0, evA, evB, evP, fl, gp, tab, simprocAttr, reduceCtorEq, reduceIte, hF, hB, beq_self_eq_true, Bool.and_self]
                    refine fin_run ?_ (hK _ ?_) <;> clear hK <;> clear K
                    · (first | exact trivial | omega | (simp only [In64] at *; omega) | (simp [In64] at *; omega) | (simp_all; done) | skip)
                    refine qa (qk ?_)
                    simp only [Try.results5, enA, ev0, evA, evB, evP, fl, gp, tab, simprocAttr, reduceCtorEq, reduceIte]
                    all_goals ((first | exact rfl | exact ⟨rfl, rfl⟩ | exact ⟨rfl, rfl, rfl⟩ | exact ⟨trivial, rfl⟩ | exact ⟨Nat.le_refl _, rfl⟩ | trivial | (simp; done)))
                · (try simp only [nhs] at hC8)
                  refine qh (qa (qm ?_))
                  refine hk_region fun K hK => runs_eval tab_ok ?_
                  simp only [ev0, evA, evB, evP, fl, gp, tab, simprocAttr, reduceCtorEq, reduceIte]
                  refine fin_run trivial (hK _ ?_) <;> clear hK <;> clear K
                  refine qa (qm (qm ?_))
                  refine hk_region fun K hK => runs_eval tab_ok ?_
                  simp only [ev0, evA, evB, evP, fl, gp, tab, simprocAttr, reduceCtorEq, reduceIte]
                  refine fin_run ?_ (hK _ ?_) <;> clear hK <;> clear K
                  · (first | exact trivial | omega | (simp only [In64] at *; omega) | (simp [In64] at *; omega) | (simp_all; done) | skip)
                  refine qa ?_
                  refine hk_cond rfl (fun hC9 => ?_) (fun hC9 => ?_)
                  · (try simp only [nhs] at hC9)
                    exact absurd hC9 hC8
                  · (try simp only [nhs] at hC9)
                    have hF := hsF2 hC8
                    have hB := hsB (by rw [hF]; exact hC8)
                    refine qh (qa (qm ?_))
                    refine hk_region fun K hK => runs_eval tab_ok ?_
                    simp only [ev0, evA, evB, evP, fl, gp, tab, simprocAttr, reduceCtorEq, reduceIte, hF, hB, beq_self_eq_true, Bool.and_self]
                    refine fin_run ?_ (hK _ ?_) <;> clear hK <;> clear K
                    · (first | exact trivial | omega | (simp only [In64] at *; omega) | (simp [In64] at *; omega) | (simp_all; done) | skip)
                    refine qa (qk ?_)
                    simp only [Try.results5, enA, ev0, evA, evB, evP, fl, gp, tab, simprocAttr, reduceCtorEq, reduceIte]
                    all_goals ((first | exact rfl | exact ⟨rfl, rfl⟩ | exact ⟨rfl, rfl, rfl⟩ | exact ⟨trivial, rfl⟩ | exact ⟨Nat.le_refl _, rfl⟩ | trivial | (simp; done)))
            · cases hC6
      · refine hk_region fun K hK => runs_eval tab_ok ?_
        simp only [ev0, evA, evB, evP, fl, gp, tab, simprocAttr, reduceCtorEq, reduceIte, decide_eq_false g12a]
        refine fin_run ?_ (hK _ ?_) <;> clear hK <;> clear K
        · (first | exact trivial | omega | (simp only [In64] at *; omega) | (simp [In64] at *; omega) | (simp_all; done) | skip)
        refine qa ?_
        refine hk_cond rfl (fun hC3 => ?_) (fun hC3 => ?_)
        · cases hC3
        · refine qj (qc (qc (qf (qa (qm (qm ?_))))))
          refine hk_freeze 0 rfl rfl ?_
          refine hk_freeze 1 rfl rfl ?_
          refine hk_freeze 2 rfl rfl ?_
          simp only [hset]
          refine hk_region fun K hK => runs_eval tab_ok ?_
          simp only [ev0, evA, evB, evP, fl, gp, tab, simprocAttr, reduceCtorEq, reduceIte, hv]
          refine fin_stop trivial (runs_call (listAs_c (bdL n m p c) (8, 0) _ _ hbl (fun _ => hb0 (by rw [hv]; simp)) (fun h0 => by simp at h0)) rfl rfl rfl (by simp only [dstOk, Nat.reduceLT]) (by repeat (first | exact trivial | constructor)) (runs_eval tab_ok ?_))
          simp only [ev0, evA, evB, evP, fl, gp, tab, simprocAttr, reduceCtorEq, reduceIte, hv]
          refine fin_run ?_ (hK _ ?_) <;> clear hK <;> clear K
          · (first | exact trivial | omega | (simp only [In64] at *; omega) | (simp [In64] at *; omega) | (simp_all; done) | skip)
          refine qa ?_
          refine hk_cond rfl (fun hC5 => ?_) (fun hC5 => ?_)
          · cases hC5
          · (try simp only [nhs] at hC5)
            refine qh (qa (qm (qm ?_)))
            refine hk_region fun K hK => runs_eval tab_ok ?_
            simp only [ev0, evA, evB, evP, fl, gp, tab, simprocAttr, reduceCtorEq, reduceIte]
            refine fin_run ?_ (hK _ ?_) <;> clear hK <;> clear K
            · (first | exact trivial | omega | (simp only [In64] at *; omega) | (simp [In64] at *; omega) | (simp_all; done) | skip)
            refine qa ?_
            refine hk_cond rfl (fun hC6 => ?_) (fun hC6 => ?_)
            · (try simp only [nhs] at hC6)
              refine hk_region fun K hK => runs_eval tab_ok ?_
              simp only [ev0, evA, evB, evP, fl, gp, tab, simprocAttr, reduceCtorEq, reduceIte]
              refine fin_stop trivial (runs_call (cocF_c hT hn hp f (by omega)) rfl rfl rfl (by simp only [dstOk, Nat.reduceLT]) (by repeat (first | exact trivial | constructor)) (runs_eval tab_ok ?_))
              simp only [ev0, evA, evB, evP, fl, gp, tab, simprocAttr, reduceCtorEq, reduceIte]
              refine fin_run ?_ (hK _ ?_) <;> clear hK <;> clear K
              · (first | exact trivial | omega | (simp only [In64] at *; omega) | (simp [In64] at *; omega) | (simp_all; done) | skip)
              refine qa (qm (qm ?_))
              refine hk_region fun K hK => runs_eval tab_ok ?_
              simp only [ev0, evA, evB, evP, fl, gp, tab, simprocAttr, reduceCtorEq, reduceIte, beq_self_eq_true, Bool.and_self, Bool.not_true]
              refine fin_run ?_ (hK _ ?_) <;> clear hK <;> clear K
              · (first | exact trivial | omega | (simp only [In64] at *; omega) | (simp [In64] at *; omega) | (simp_all; done) | skip)
              refine qa ?_
              refine hk_cond rfl (fun hC7 => ?_) (fun hC7 => ?_)
              · cases hC7
              · (try simp only [nhs] at hC7)
                refine qh (qa (qm (qm ?_)))
                refine hk_region fun K hK => runs_eval tab_ok ?_
                simp only [ev0, evA, evB, evP, fl, gp, tab, simprocAttr, reduceCtorEq, reduceIte]
                refine fin_run ?_ (hK _ ?_) <;> clear hK <;> clear K
                · (first | exact trivial | omega | (simp only [In64] at *; omega) | (simp [In64] at *; omega) | (simp_all; done) | skip)
                refine qa ?_
                refine hk_cond rfl (fun hC8 => ?_) (fun hC8 => ?_)
                · (try simp only [nhs] at hC8)
                  refine hk_region fun K hK => runs_eval tab_ok ?_
                  simp only [ev0, evA, evB, evP, fl, gp, tab, simprocAttr, reduceCtorEq, reduceIte]
                  refine fin_stop trivial (runs_call (cocF_c hT hn hp h (by omega)) rfl rfl rfl (by simp only [dstOk, Nat.reduceLT]) (by repeat (first | exact trivial | constructor)) (runs_eval tab_ok ?_))
                  simp only [ev0, evA, evB, evP, fl, gp, tab, simprocAttr, reduceCtorEq, reduceIte]
                  refine fin_run ?_ (hK _ ?_) <;> clear hK <;> clear K
                  · (first | exact trivial | omega | (simp only [In64] at *; omega) | (simp [In64] at *; omega) | (simp_all; done) | skip)
                  refine qa (qm ?_)
                  refine hk_region fun K hK => runs_eval tab_ok ?_
                  simp only [ev0, evA, evB, evP, fl, gp, tab, simprocAttr, reduceCtorEq, reduceIte]
                  refine fin_run trivial (hK _ ?_) <;> clear hK <;> clear K
                  refine qa (qm (qm ?_))
                  refine hk_region fun K hK => runs_eval tab_ok ?_
                  simp only [ev0, evA, evB, evP, fl, gp, tab, simprocAttr, reduceCtorEq, reduceIte]
                  refine fin_run ?_ (hK _ ?_) <;> clear hK <;> clear K
                  · (first | exact trivial | omega | (simp only [In64] at *; omega) | (simp [In64] at *; omega) | (simp_all; done) | skip)
                  refine qa ?_
                  refine hk_cond rfl (fun hC9 => ?_) (fun hC9 => ?_)
                  · (try simp only [nhs] at hC9)
                    have hf0 : (cf n m p f).1 = 0 := hC8
                    have hh0 : (cf n m p h).1 = 0 := hC9
                    obtain ⟨f1, f2, _, _⟩ := cf_0 hf0
                    obtain ⟨h1, h2, _, _⟩ := cf_0 hh0
                    have hF := hsF hC8
                    have hdl : ∀ k, (diL f h p k).length = k := fun k => rg_len _ _
                    have hdr : rng p (diL f h p (n * n)) := fun t ht => by
                      rw [hdl] at ht
                      unfold diL; rw [rg_get _ ht]; exact emod_rng (by omega) _
                    refine qm ?_
                    refine hk_region fun K hK => runs_eval tab_ok ?_
                    simp only [ev0, evA, evB, evP, fl, gp, tab, simprocAttr, reduceCtorEq, reduceIte]
                    refine fin_run trivial (hK _ ?_) <;> clear hK <;> clear K
                    refine qa (qm (qm ?_))
                    refine hk_own0 21 rfl ?_
                    refine hk_region fun K hK => runs_eval tab_ok ?_
                    simp only [ev0, evA, evB, evP, fl, gp, tab, simprocAttr, reduceCtorEq, reduceIte]
                    refine fin_run trivial (hK _ ?_) <;> clear hK <;> clear K
                    refine qa (ql ?_)
                    refine hk_loop (ι := Nat) (fun k => ⟨151, [(2, .p (.list (il f))), (3, .p (.list (il h))), (5, .ptr 0 0), (6, .ptr 1 0), (15, .p (.bool (saB n m p f h))), (16, .ptr 2 0), (17, .ptr 3 0), (21, .sl 4 0 (diL f h p k).length), (22, .p (.int .i64 k))], [.fro [.int .i64 n, .list (il m)], .fro [.int .i64 p], .own [.p (.int .i64 (saF n m p f h).1), .p (.int .i64 (saF n m p f h).2)], .own [.p (.int .i64 (cf n m p h).1), .p (.int .i64 (cf n m p h).2)], .own (ol (diL f h p k))]⟩) (fun k => k ≤ n * n) (fun k => n * n - k) 0 (Nat.zero_le _) [0, 1, 5, 6, 8] (by simp only [leq, leA, ev0, evA, evB, evP, fl, gp, tab, simprocAttr, reduceCtorEq, reduceIte] <;> simp [diL, rg, ol_nil]) fun k hk => ?_
                    refine qm (qm ?_)
                    refine hk_region fun K hK => runs_eval tab_ok ?_
                    simp only [ev0, evA, evB, evP, fl, gp, tab, simprocAttr, reduceCtorEq, reduceIte]
                    refine fin_run trivial (hK _ ?_) <;> clear hK <;> clear K
                    refine qa ?_
                    refine hk_cond rfl (fun hC10 => ?_) (fun hC10 => ?_)
                    · (try simp only [nhs] at hC10)
                      have hkl : k < n * n := by omega
                      have b1 := f2 k (by omega)
                      have b2 := h2 k (by omega)
                      have hl' := hdl k
                      have tm : Int.tmod (f.getD k 0 + p - h.getD k 0) p = (f.getD k 0 + p - h.getD k 0) % (p : Int) := Int.tmod_eq_emod_of_nonneg (by omega)
                      refine qh (qa (qm (ql ?_)))
                      refine hk_draw mixed (by kernel_rfl) fun K hK => runs_eval tab_ok ?_
                      simp only [ev0, evA, evB, evP, fl, gp, tab, simprocAttr, reduceCtorEq, reduceIte, il_get (show k < f.length by omega), il_get (show k < h.length by omega), tm]
                      refine fin_run ?_ (hK _ ?_) <;> clear hK <;> clear K
                      · (first | exact trivial | omega | (simp only [In64] at *; omega) | (simp [In64] at *; omega) | (simp_all; done) | skip)
                      refine qd (qa ?_)
                      refine hk_region fun K hK => runs_eval tab_ok ?_
                      simp only [ev0, evA, evB, evP, fl, gp, tab, simprocAttr, reduceCtorEq, reduceIte]
                      refine fin_run ?_ (hK _ ?_) <;> clear hK <;> clear K
                      · (first | exact trivial | omega | (simp only [In64] at *; omega) | (simp [In64] at *; omega) | (simp_all; done) | skip)
                      refine qa ?_
                      refine ⟨k + 1, [0, 1, 2, 3, 5], by omega, by omega, ?_⟩
                      rw [show diL f h p (k + 1) = diL f h p k ++ [(f.getD k 0 + p - h.getD k 0) % (p : Int)] from rg_succ _ _]
                      simp only [leq, leA, ev0, evA, evB, evP, fl, gp, tab, simprocAttr, reduceCtorEq, reduceIte] <;> first | trivial | omega
                    · (try simp only [nhs] at hC10)
                      refine qj (qc (qc (qf (qa ?_))))
                      have hkn : k = n * n := by omega
                      subst hkn
                      refine hk_seal 21 4 (w := diL f h p (n * n)) rfl rfl ?_
                      refine hk_region fun K hK => runs_eval tab_ok ?_
                      simp only [ev0, evA, evB, evP, fl, gp, tab, simprocAttr, reduceCtorEq, reduceIte]
                      refine fin_stop trivial (runs_call (solved_c hT hn hp (diL f h p (n * n)) (hdl _) hdr (saB n m p f h) (same_sol hT hp hf0 hh0)) rfl rfl rfl (by simp only [dstOk, Nat.reduceLT]) (by repeat (first | exact trivial | constructor)) (runs_eval tab_ok ?_))
                      simp only [ev0, evA, evB, evP, fl, gp, tab, simprocAttr, reduceCtorEq, reduceIte]
                      refine fin_run ?_ (hK _ ?_) <;> clear hK <;> clear K
                      · (first | exact trivial | omega | (simp only [In64] at *; omega) | (simp [In64] at *; omega) | (simp_all; done) | skip)
                      refine qa (qm ?_)
                      refine hk_region fun K hK => runs_eval tab_ok ?_
                      simp only [ev0, evA, evB, evP, fl, gp, tab, simprocAttr, reduceCtorEq, reduceIte, hF, beq_self_eq_true, Bool.and_self]
                      refine fin_run ?_ (hK _ ?_) <;> clear hK <;> clear K
                      · (first | exact trivial | omega | (simp only [In64] at *; omega) | (simp [In64] at *; omega) | (simp_all; done) | skip)
                      refine qa (qk ?_)
                      simp only [Try.results5, enA, ev0, evA, evB, evP, fl, gp, tab, simprocAttr, reduceCtorEq, reduceIte]
                      all_goals ((first | exact rfl | exact ⟨rfl, rfl⟩ | exact ⟨rfl, rfl, rfl⟩ | exact ⟨trivial, rfl⟩ | exact ⟨Nat.le_refl _, rfl⟩ | trivial | (simp; done)))
                  · (try simp only [nhs] at hC9)
                    have hF := hsF hC8
                    have hB := hsB (by rw [hF]; exact hC9)
                    refine qh (qa (qm ?_))
                    refine hk_region fun K hK => runs_eval tab_ok ?_
                    simp only [ev0, evA, evB, evP, fl, gp, tab, simprocAttr, reduceCtorEq, reduceIte, hF, hB, beq_self_eq_true, Bool.and_self]
                    refine fin_run ?_ (hK _ ?_) <;> clear hK <;> clear K
                    · (first | exact trivial | omega | (simp only [In64] at *; omega) | (simp [In64] at *; omega) | (simp_all; done) | skip)
                    refine qa (qk ?_)
                    simp only [Try.results5, enA, ev0, evA, evB, evP, fl, gp, tab, simprocAttr, reduceCtorEq, reduceIte]
                    all_goals ((first | exact rfl | exact ⟨rfl, rfl⟩ | exact ⟨rfl, rfl, rfl⟩ | exact ⟨trivial, rfl⟩ | exact ⟨Nat.le_refl _, rfl⟩ | trivial | (simp; done)))
                · (try simp only [nhs] at hC8)
                  refine qh (qa (qm ?_))
                  refine hk_region fun K hK => runs_eval tab_ok ?_
                  simp only [ev0, evA, evB, evP, fl, gp, tab, simprocAttr, reduceCtorEq, reduceIte]
                  refine fin_run trivial (hK _ ?_) <;> clear hK <;> clear K
                  refine qa (qm (qm ?_))
                  refine hk_region fun K hK => runs_eval tab_ok ?_
                  simp only [ev0, evA, evB, evP, fl, gp, tab, simprocAttr, reduceCtorEq, reduceIte]
                  refine fin_run ?_ (hK _ ?_) <;> clear hK <;> clear K
                  · (first | exact trivial | omega | (simp only [In64] at *; omega) | (simp [In64] at *; omega) | (simp_all; done) | skip)
                  refine qa ?_
                  refine hk_cond rfl (fun hC9 => ?_) (fun hC9 => ?_)
                  · (try simp only [nhs] at hC9)
                    exact absurd hC9 hC8
                  · (try simp only [nhs] at hC9)
                    have hF := hsF2 hC8
                    have hB := hsB (by rw [hF]; exact hC8)
                    refine qh (qa (qm ?_))
                    refine hk_region fun K hK => runs_eval tab_ok ?_
                    simp only [ev0, evA, evB, evP, fl, gp, tab, simprocAttr, reduceCtorEq, reduceIte, hF, hB, beq_self_eq_true, Bool.and_self]
                    refine fin_run ?_ (hK _ ?_) <;> clear hK <;> clear K
                    · (first | exact trivial | omega | (simp only [In64] at *; omega) | (simp [In64] at *; omega) | (simp_all; done) | skip)
                    refine qa (qk ?_)
                    simp only [Try.results5, enA, ev0, evA, evB, evP, fl, gp, tab, simprocAttr, reduceCtorEq, reduceIte]
                    all_goals ((first | exact rfl | exact ⟨rfl, rfl⟩ | exact ⟨rfl, rfl, rfl⟩ | exact ⟨trivial, rfl⟩ | exact ⟨Nat.le_refl _, rfl⟩ | trivial | (simp; done)))
            · cases hC6
    · (try simp only [nhs] at hC2)
      omega

set_option maxHeartbeats 8000000 in
theorem checks_3 {n e p : Nat} {m : List Int} (hT : GT n m n e) (hn : n ≤ 12) (hp : pr p) (f h c : List Int) (hl : f.length ≤ 17592186043904) (hl2 : h.length ≤ 17592186043904) (hl3 : c.length ≤ 17592186043904) (hcl : c.length = n) : FnC Try.prog 5 [gp n m, .int .i64 p, .list (il f), .list (il h), .list (il c)] (.bool true) := by
  have hp2 := hp.le
  have hsq : n * n ≤ 144 := Nat.mul_le_mul hn hn
  have hml := hT.2.1.len
  have hbl : (bdL n m p c).length ≤ 1000000000000000 := by
    unfold bdL; split
    · rw [dl_len]; omega
    · simp
  have hb0 : ¬ (bf n p c).1 = 0 → bdL n m p c = [] := fun h0 => by unfold bdL; rw [if_neg h0]
  have hsF : (cf n m p f).1 = 0 → saF n m p f h = cf n m p h := fun h0 => by unfold saF; rw [if_neg (fun hh => hh h0)]
  have hsF2 : ¬ (cf n m p f).1 = 0 → saF n m p f h = cf n m p f := fun h0 => by unfold saF; rw [if_pos h0]
  have hsB : ¬ (saF n m p f h).1 = 0 → saB n m p f h = false := fun h0 => by unfold saB; rw [decide_eq_false h0]; rfl
  refine fnc_of tab_ok Try.func5 rfl (by kernel_rfl) (by rw [Try.ntmps5]; exact Nat.le_add_left 5 _) ?_; rw [Try.ntmps5]
  refine qm ?_
  refine hk_region fun K hK => runs_eval tab_ok ?_
  simp only [ev0, evA, evB, evP, fl, gp, tab, simprocAttr, reduceCtorEq, reduceIte]
  refine fin_run ?_ (hK _ ?_) <;> clear hK <;> clear K
  · (first | exact trivial | omega | (simp only [In64] at *; omega) | (simp [In64] at *; omega) | (simp_all; done) | skip)
  refine qa (qm ?_)
  refine hk_region fun K hK => runs_eval tab_ok ?_
  simp only [ev0, evA, evB, evP, fl, gp, tab, simprocAttr, reduceCtorEq, reduceIte]
  refine fin_stop trivial (runs_call (ownGroup_c n m (by omega)) rfl rfl rfl (by simp only [dstOk, Nat.reduceLT]) (by repeat (first | exact trivial | constructor)) (runs_eval tab_ok ?_))
  simp only [ev0, evA, evB, evP, fl, gp, tab, simprocAttr, reduceCtorEq, reduceIte]
  refine fin_run ?_ (hK _ ?_) <;> clear hK <;> clear K
  · (first | exact trivial | omega | (simp only [In64] at *; omega) | (simp [In64] at *; omega) | (simp_all; done) | skip)
  refine qa (qm ?_)
  refine hk_draw2 mixed fun K hK => runs2_eval tab_ok ?_
  simp only [evD, ev0, evA, evB, evP, fl, gp, tab, simprocAttr, reduceCtorEq, reduceIte]
  refine fin2_stop trivial (runs2_call (own_c f hl) rfl rfl rfl rfl (by simp only [dstOk, Nat.reduceLT]) (by repeat (first | exact trivial | constructor)) (runs2_eval tab_ok ?_))
  simp only [evD, ev0, evA, evB, evP, fl, gp, tab, simprocAttr, reduceCtorEq, reduceIte]
  refine fin2_stop trivial (runs2_call (xcheck_ok hT hn hp f (by omega)) rfl rfl rfl rfl (by simp only [dstOk, Nat.reduceLT]) (by repeat (first | exact trivial | constructor)) (runs2_eval tab_ok ?_))
  simp only [evD, ev0, evA, evB, evP, fl, gp, tab, simprocAttr, reduceCtorEq, reduceIte]
  refine fin2_run ?_ (hK _ _ (by first | kernel_rfl | rfl) ?_) <;> clear hK <;> clear K
  · (first | exact trivial | omega | (simp only [In64] at *; omega) | (simp [In64] at *; omega) | (simp_all; done) | skip)
  refine qa (qm ?_)
  refine hk_draw2 mixed fun K hK => runs2_eval tab_ok ?_
  simp only [evD, ev0, evA, evB, evP, fl, gp, tab, simprocAttr, reduceCtorEq, reduceIte]
  refine fin2_stop trivial (runs2_call (own_c c hl3) rfl rfl rfl rfl (by simp only [dstOk, Nat.reduceLT]) (by repeat (first | exact trivial | constructor)) (runs2_eval tab_ok ?_))
  simp only [evD, ev0, evA, evB, evP, fl, gp, tab, simprocAttr, reduceCtorEq, reduceIte]
  refine fin2_stop trivial (runs2_call (bound_ok hT hn hp c (by omega)) rfl rfl rfl rfl (by simp only [dstOk, Nat.reduceLT]) (by repeat (first | exact trivial | constructor)) (runs2_eval tab_ok ?_))
  simp only [evD, ev0, evA, evB, evP, fl, gp, tab, simprocAttr, reduceCtorEq, reduceIte]
  refine fin2_run ?_ (hK _ _ (by first | kernel_rfl | rfl) ?_) <;> clear hK <;> clear K
  · (first | exact trivial | omega | (simp only [In64] at *; omega) | (simp [In64] at *; omega) | (simp_all; done) | skip)
  refine qa (qm ?_)
  refine hk_draw2 mixed fun K hK => runs2_eval tab_ok ?_
  simp only [evD, ev0, evA, evB, evP, fl, gp, tab, simprocAttr, reduceCtorEq, reduceIte]
  refine fin2_stop trivial (runs2_call (own_c f hl) rfl rfl rfl rfl (by simp only [dstOk, Nat.reduceLT]) (by repeat (first | exact trivial | constructor)) (runs2_eval tab_ok ?_))
  simp only [evD, ev0, evA, evB, evP, fl, gp, tab, simprocAttr, reduceCtorEq, reduceIte]
  refine fin2_stop trivial (runs2_call (own_c h hl2) rfl rfl rfl rfl (by simp only [dstOk, Nat.reduceLT]) (by repeat (first | exact trivial | constructor)) (runs2_eval tab_ok ?_))
  simp only [evD, ev0, evA, evB, evP, fl, gp, tab, simprocAttr, reduceCtorEq, reduceIte]
  refine fin2_stop trivial (runs2_call (same_ok hT hn hp f h (by omega) (by omega)) rfl rfl rfl rfl (by simp only [dstOk, Nat.reduceLT]) (by repeat (first | exact trivial | constructor)) (runs2_eval tab_ok ?_))
  simp only [evD, ev0, evA, evB, evP, fl, gp, tab, simprocAttr, reduceCtorEq, reduceIte]
  refine fin2_run ?_ (hK _ _ (by first | kernel_rfl | rfl) ?_) <;> clear hK <;> clear K
  · (first | exact trivial | omega | (simp only [In64] at *; omega) | (simp [In64] at *; omega) | (simp_all; done) | skip)
  refine qa (qm ?_)
  refine hk_region fun K hK => runs_eval tab_ok ?_
  simp only [ev0, evA, evB, evP, fl, gp, tab, simprocAttr, reduceCtorEq, reduceIte, xf_of hT hn hp]
  refine fin_stop trivial (runs_call (extFault_c n m p (by omega)) rfl rfl rfl (by simp only [dstOk, Nat.reduceLT]) (by repeat (first | exact trivial | constructor)) (runs_eval tab_ok ?_))
  simp only [ev0, evA, evB, evP, fl, gp, tab, simprocAttr, reduceCtorEq, reduceIte, xf_of hT hn hp]
  refine fin_run ?_ (hK _ ?_) <;> clear hK <;> clear K
  · (first | exact trivial | omega | (simp only [In64] at *; omega) | (simp [In64] at *; omega) | (simp_all; done) | skip)
  refine qa (qm (qm ?_))
  refine hk_region fun K hK => runs_eval tab_ok ?_
  simp only [ev0, evA, evB, evP, fl, gp, tab, simprocAttr, reduceCtorEq, reduceIte]
  refine fin_stop trivial (runs_call (begun_x) rfl rfl rfl (by simp only [dstOk, Nat.reduceLT]) (by repeat (first | exact trivial | constructor)) (runs_eval tab_ok ?_))
  simp only [ev0, evA, evB, evP, fl, gp, tab, simprocAttr, reduceCtorEq, reduceIte]
  refine fin_run trivial (hK _ ?_) <;> clear hK <;> clear K
  refine qa ?_
  refine hk_cond rfl (fun hC1 => ?_) (fun hC1 => ?_)
  · cases hC1
  · (try simp only [nhs] at hC1)
    refine qh (qa (qm ?_))
    refine hk_region fun K hK => runs_eval tab_ok ?_
    simp only [ev0, evA, evB, evP, fl, gp, tab, simprocAttr, reduceCtorEq, reduceIte]
    refine fin_run ?_ (hK _ ?_) <;> clear hK <;> clear K
    · (first | exact trivial | omega | (simp only [In64] at *; omega) | (simp [In64] at *; omega) | (simp_all; done) | skip)
    refine qa (qm (qm ?_))
    refine hk_region fun K hK => runs_eval tab_ok ?_
    simp only [ev0, evA, evB, evP, fl, gp, tab, simprocAttr, reduceCtorEq, reduceIte]
    refine fin_run ?_ (hK _ ?_) <;> clear hK <;> clear K
    · (first | exact trivial | omega | (simp only [In64] at *; omega) | (simp [In64] at *; omega) | (simp_all; done) | skip)
    refine qa ?_
    refine hk_cond rfl (fun hC2 => ?_) (fun hC2 => ?_)
    · (try simp only [nhs] at hC2)
      omega
    · (try simp only [nhs] at hC2)
      refine qh (qa (qm (qm ?_)))
      refine hk_region fun K hK => runs_eval tab_ok ?_
      simp only [ev0, evA, evB, evP, fl, gp, tab, simprocAttr, reduceCtorEq, reduceIte]
      refine fin_run trivial (hK _ ?_) <;> clear hK <;> clear K
      refine qa (ql ?_)
      refine hk_loop (ι := Nat × (Int × Int)) (fun x => ⟨151, [(2, .p (.list (il f))), (3, .p (.list (il h))), (5, .ptr 0 0), (6, .ptr 1 0), (9, .ptr 2 0), (12, .ptr 3 0), (13, .p (.list (il (bdL n m p c)))), (14, .ptr 4 0), (15, .p (.bool (saB n m p f h))), (16, .ptr 5 0), (17, .ptr 6 0), (18, .ptr 7 0), (19, .p (.int .i64 x.1))], [.own [.p (.int .i64 n), .p (.list (il m))], .own [.p (.int .i64 p)], .own [.p (.list (il c))], .own [.p (.int .i64 (cf n m p f).1), .p (.int .i64 (cf n m p f).2)], .own [.p (.int .i64 (bf n p c).1), .p (.int .i64 (bf n p c).2)], .own [.p (.int .i64 (saF n m p f h).1), .p (.int .i64 (saF n m p f h).2)], .own [.p (.int .i64 0), .p (.int .i64 0)], .own [.p (.int .i64 x.2.1), .p (.int .i64 x.2.2)]]⟩) (fun x => x.1 ≤ c.length ∧ ((¬ x.2.1 = 0 ∧ x.2 = bf n p c) ∨ (x.2 = (0, 0) ∧ ∀ j, j < x.1 → 0 ≤ c.getD j 0 ∧ c.getD j 0 < p))) (fun x => c.length - x.1) (0, (0, 0)) ⟨Nat.zero_le _, .inr ⟨rfl, fun j hj => by simp only at hj; omega⟩⟩ [0, 1, 2, 4, 5, 6, 7, 8] (by simp only [leq, leA, ev0, evA, evB, evP, fl, gp, tab, simprocAttr, reduceCtorEq, reduceIte] <;> trivial) fun x hx => ?_
      obtain ⟨i, v1, v2⟩ := x
      obtain ⟨hi1, hi2⟩ := hx
      simp only at hi1 hi2
      refine qm (qm ?_)
      by_cases g12a : (i : Int) < (c.length : Int)
      · refine hk_region fun K hK => runs_eval tab_ok ?_
        simp only [ev0, evA, evB, evP, fl, gp, tab, simprocAttr, reduceCtorEq, reduceIte, decide_eq_true g12a]
        refine fin_run ?_ (hK _ ?_) <;> clear hK <;> clear K
        · (first | exact trivial | omega | (simp only [In64] at *; omega) | (simp [In64] at *; omega) | (simp_all; done) | skip)
        refine qa ?_
        refine hk_cond rfl (fun hC3 => ?_) (fun hC3 => ?_)
        · (try simp only [nhs] at hC3)
          have hlt : i < c.length := by omega
          obtain ⟨hv0, hj⟩ := hi2.resolve_left (fun hh => hh.1 hC3)
          refine qh (qa (qm (ql (qm ?_))))
          by_cases g14a : c.getD i 0 < 0
          · refine hk_draw mixed (by kernel_rfl) fun K hK => runs_eval tab_ok ?_
            simp only [ev0, evA, evB, evP, fl, gp, tab, simprocAttr, reduceCtorEq, reduceIte, il_get hlt, decide_eq_true g14a]
            refine fin_run ?_ (hK _ ?_) <;> clear hK <;> clear K
            · (first | exact trivial | omega | (simp only [In64] at *; omega) | (simp [In64] at *; omega) | (simp_all; done) | skip)
            refine qa ?_
            refine hk_cond rfl (fun hC4 => ?_) (fun hC4 => ?_)
            · refine hk_region fun K hK => runs_eval tab_ok ?_
              simp only [ev0, evA, evB, evP, fl, gp, tab, simprocAttr, reduceCtorEq, reduceIte]
              refine fin_stop trivial (runs_call (f_c 5 i) rfl rfl rfl (by simp only [dstOk, Nat.reduceLT]) (by repeat (first | exact trivial | constructor)) (runs_eval tab_ok ?_))
              simp only [ev0, evA, evB, evP, fl, gp, tab, simprocAttr, reduceCtorEq, reduceIte]
              refine fin_run ?_ (hK _ ?_) <;> clear hK <;> clear K
              · (first | exact trivial | omega | (simp only [In64] at *; omega) | (simp [In64] at *; omega) | (simp_all; done) | skip)
              refine qd (qa ?_)
              refine hk_region fun K hK => runs_eval tab_ok ?_
              simp only [ev0, evA, evB, evP, fl, gp, tab, simprocAttr, reduceCtorEq, reduceIte]
              refine fin_run ?_ (hK _ ?_) <;> clear hK <;> clear K
              · (first | exact trivial | omega | (simp only [In64] at *; omega) | (simp [In64] at *; omega) | (simp_all; done) | skip)
              refine qa ?_
              refine ⟨(i + 1, (5, (i : Int))), [0, 1, 2, 3, 4, 5, 6, 7], ⟨by simp only; omega, .inl ⟨by simp, (bf_5 hcl hlt (.inl g14a) hj).symm⟩⟩, by simp only; omega, ?_⟩
              simp only [leq, leA, ev0, evA, evB, evP, fl, gp, tab, simprocAttr, reduceCtorEq, reduceIte] <;> first | trivial | omega
            · cases hC4
          · refine hk_draw mixed (by kernel_rfl) fun K hK => runs_eval tab_ok ?_
            simp only [ev0, evA, evB, evP, fl, gp, tab, simprocAttr, reduceCtorEq, reduceIte, il_get hlt, decide_eq_false g14a]
            refine fin_run ?_ (hK _ ?_) <;> clear hK <;> clear K
            · (first | exact trivial | omega | (simp only [In64] at *; omega) | (simp [In64] at *; omega) | (simp_all; done) | skip)
            refine qa ?_
            refine hk_cond rfl (fun hC4 => ?_) (fun hC4 => ?_)
            · (try simp only [nhs] at hC4)
              refine hk_region fun K hK => runs_eval tab_ok ?_
              simp only [ev0, evA, evB, evP, fl, gp, tab, simprocAttr, reduceCtorEq, reduceIte]
              refine fin_stop trivial (runs_call (f_c 5 i) rfl rfl rfl (by simp only [dstOk, Nat.reduceLT]) (by repeat (first | exact trivial | constructor)) (runs_eval tab_ok ?_))
              simp only [ev0, evA, evB, evP, fl, gp, tab, simprocAttr, reduceCtorEq, reduceIte]
              refine fin_run ?_ (hK _ ?_) <;> clear hK <;> clear K
              · (first | exact trivial | omega | (simp only [In64] at *; omega) | (simp [In64] at *; omega) | (simp_all; done) | skip)
              refine qd (qa ?_)
              refine hk_region fun K hK => runs_eval tab_ok ?_
              simp only [ev0, evA, evB, evP, fl, gp, tab, simprocAttr, reduceCtorEq, reduceIte]
              refine fin_run ?_ (hK _ ?_) <;> clear hK <;> clear K
              · (first | exact trivial | omega | (simp only [In64] at *; omega) | (simp [In64] at *; omega) | (simp_all; done) | skip)
              refine qa ?_
              refine ⟨(i + 1, (5, (i : Int))), [0, 1, 2, 3, 4, 5, 6, 7], ⟨by simp only; omega, .inl ⟨by simp, (bf_5 hcl hlt (.inr hC4) hj).symm⟩⟩, by simp only; omega, ?_⟩
              simp only [leq, leA, ev0, evA, evB, evP, fl, gp, tab, simprocAttr, reduceCtorEq, reduceIte] <;> first | trivial | omega
            · (try simp only [nhs] at hC4)
              refine qh (qd (qa ?_))
              refine hk_region fun K hK => runs_eval tab_ok ?_
              simp only [ev0, evA, evB, evP, fl, gp, tab, simprocAttr, reduceCtorEq, reduceIte]
              refine fin_run ?_ (hK _ ?_) <;> clear hK <;> clear K
              · (first | exact trivial | omega | (simp only [In64] at *; omega) | (simp [In64] at *; omega) | (simp_all; done) | skip)
              refine qa ?_
              refine ⟨(i + 1, (v1, v2)), [0, 1, 2, 3, 4, 5, 6, 7], ⟨by simp only; omega, .inr ⟨hv0, fun j hj2 => ?_⟩⟩, by simp only; omega, ?_⟩
              · by_cases hji : j = i
                · subst hji; omega
                · exact hj j (by simp only at hj2; omega)
              · simp only [leq, leA, ev0, evA, evB, evP, fl, gp, tab, simprocAttr, reduceCtorEq, reduceIte] <;> first | trivial | omega
        · (try simp only [nhs] at hC3)
          refine qj (qc (qc (qf (qa (qm (qm ?_))))))
          have hvv : bf n p c = (v1, v2) := by
            rcases hi2 with hh | ⟨hh, hj⟩
            · exact hh.2.symm
            · simp only [Prod.mk.injEq] at hh
              rw [hh.1, hh.2]
              exact bf_0 hcl fun t ht => hj t (by omega)
          refine hk_freeze 0 rfl rfl ?_
          refine hk_freeze 1 rfl rfl ?_
          refine hk_freeze 2 rfl rfl ?_
          simp only [hset]
          refine hk_region fun K hK => runs_eval tab_ok ?_
          simp only [ev0, evA, evB, evP, fl, gp, tab, simprocAttr, reduceCtorEq, reduceIte, hvv]
          refine fin_stop trivial (runs_call (listAs_c (bdL n m p c) (v1, v2) _ _ hbl (fun h0 => hb0 (by rw [hvv]; exact h0)) (fun h0 => boundClo_c hT hn hp c (by rw [hvv]; exact h0))) rfl rfl rfl (by simp only [dstOk, Nat.reduceLT]) (by repeat (first | exact trivial | constructor)) (runs_eval tab_ok ?_))
          simp only [ev0, evA, evB, evP, fl, gp, tab, simprocAttr, reduceCtorEq, reduceIte, hvv]
          refine fin_run ?_ (hK _ ?_) <;> clear hK <;> clear K
          · (first | exact trivial | omega | (simp only [In64] at *; omega) | (simp [In64] at *; omega) | (simp_all; done) | skip)
          refine qa ?_
          refine hk_cond rfl (fun hC5 => ?_) (fun hC5 => ?_)
          · cases hC5
          · (try simp only [nhs] at hC5)
            refine qh (qa (qm (qm ?_)))
            refine hk_region fun K hK => runs_eval tab_ok ?_
            simp only [ev0, evA, evB, evP, fl, gp, tab, simprocAttr, reduceCtorEq, reduceIte]
            refine fin_run ?_ (hK _ ?_) <;> clear hK <;> clear K
            · (first | exact trivial | omega | (simp only [In64] at *; omega) | (simp [In64] at *; omega) | (simp_all; done) | skip)
            refine qa ?_
            refine hk_cond rfl (fun hC6 => ?_) (fun hC6 => ?_)
            · (try simp only [nhs] at hC6)
              refine hk_region fun K hK => runs_eval tab_ok ?_
              simp only [ev0, evA, evB, evP, fl, gp, tab, simprocAttr, reduceCtorEq, reduceIte]
              refine fin_stop trivial (runs_call (cocF_c hT hn hp f (by omega)) rfl rfl rfl (by simp only [dstOk, Nat.reduceLT]) (by repeat (first | exact trivial | constructor)) (runs_eval tab_ok ?_))
              simp only [ev0, evA, evB, evP, fl, gp, tab, simprocAttr, reduceCtorEq, reduceIte]
              refine fin_run ?_ (hK _ ?_) <;> clear hK <;> clear K
              · (first | exact trivial | omega | (simp only [In64] at *; omega) | (simp [In64] at *; omega) | (simp_all; done) | skip)
              refine qa (qm (qm ?_))
              refine hk_region fun K hK => runs_eval tab_ok ?_
              simp only [ev0, evA, evB, evP, fl, gp, tab, simprocAttr, reduceCtorEq, reduceIte, beq_self_eq_true, Bool.and_self, Bool.not_true]
              refine fin_run ?_ (hK _ ?_) <;> clear hK <;> clear K
              · (first | exact trivial | omega | (simp only [In64] at *; omega) | (simp [In64] at *; omega) | (simp_all; done) | skip)
              refine qa ?_
              refine hk_cond rfl (fun hC7 => ?_) (fun hC7 => ?_)
              · cases hC7
              · (try simp only [nhs] at hC7)
                refine qh (qa (qm (qm ?_)))
                refine hk_region fun K hK => runs_eval tab_ok ?_
                simp only [ev0, evA, evB, evP, fl, gp, tab, simprocAttr, reduceCtorEq, reduceIte]
                refine fin_run ?_ (hK _ ?_) <;> clear hK <;> clear K
                · (first | exact trivial | omega | (simp only [In64] at *; omega) | (simp [In64] at *; omega) | (simp_all; done) | skip)
                refine qa ?_
                refine hk_cond rfl (fun hC8 => ?_) (fun hC8 => ?_)
                · (try simp only [nhs] at hC8)
                  refine hk_region fun K hK => runs_eval tab_ok ?_
                  simp only [ev0, evA, evB, evP, fl, gp, tab, simprocAttr, reduceCtorEq, reduceIte]
                  refine fin_stop trivial (runs_call (cocF_c hT hn hp h (by omega)) rfl rfl rfl (by simp only [dstOk, Nat.reduceLT]) (by repeat (first | exact trivial | constructor)) (runs_eval tab_ok ?_))
                  simp only [ev0, evA, evB, evP, fl, gp, tab, simprocAttr, reduceCtorEq, reduceIte]
                  refine fin_run ?_ (hK _ ?_) <;> clear hK <;> clear K
                  · (first | exact trivial | omega | (simp only [In64] at *; omega) | (simp [In64] at *; omega) | (simp_all; done) | skip)
                  refine qa (qm ?_)
                  refine hk_region fun K hK => runs_eval tab_ok ?_
                  simp only [ev0, evA, evB, evP, fl, gp, tab, simprocAttr, reduceCtorEq, reduceIte]
                  refine fin_run trivial (hK _ ?_) <;> clear hK <;> clear K
                  refine qa (qm (qm ?_))
                  refine hk_region fun K hK => runs_eval tab_ok ?_
                  simp only [ev0, evA, evB, evP, fl, gp, tab, simprocAttr, reduceCtorEq, reduceIte]
                  refine fin_run ?_ (hK _ ?_) <;> clear hK <;> clear K
                  · (first | exact trivial | omega | (simp only [In64] at *; omega) | (simp [In64] at *; omega) | (simp_all; done) | skip)
                  refine qa ?_
                  refine hk_cond rfl (fun hC9 => ?_) (fun hC9 => ?_)
                  · (try simp only [nhs] at hC9)
                    have hf0 : (cf n m p f).1 = 0 := hC8
                    have hh0 : (cf n m p h).1 = 0 := hC9
                    obtain ⟨f1, f2, _, _⟩ := cf_0 hf0
                    obtain ⟨h1, h2, _, _⟩ := cf_0 hh0
                    have hF := hsF hC8
                    have hdl : ∀ k, (diL f h p k).length = k := fun k => rg_len _ _
                    have hdr : rng p (diL f h p (n * n)) := fun t ht => by
                      rw [hdl] at ht
                      unfold diL; rw [rg_get _ ht]; exact emod_rng (by omega) _
                    refine qm ?_
                    refine hk_region fun K hK => runs_eval tab_ok ?_
                    simp only [ev0, evA, evB, evP, fl, gp, tab, simprocAttr, reduceCtorEq, reduceIte]
                    refine fin_run trivial (hK _ ?_) <;> clear hK <;> clear K
                    refine qa (qm (qm ?_))
                    refine hk_own0 21 rfl ?_
                    refine hk_region fun K hK => runs_eval tab_ok ?_
                    simp only [ev0, evA, evB, evP, fl, gp, tab, simprocAttr, reduceCtorEq, reduceIte]
                    refine fin_run trivial (hK _ ?_) <;> clear hK <;> clear K
                    refine qa (ql ?_)
                    refine hk_loop (ι := Nat) (fun k => ⟨151, [(2, .p (.list (il f))), (3, .p (.list (il h))), (5, .ptr 0 0), (6, .ptr 1 0), (15, .p (.bool (saB n m p f h))), (16, .ptr 2 0), (17, .ptr 3 0), (21, .sl 4 0 (diL f h p k).length), (22, .p (.int .i64 k))], [.fro [.int .i64 n, .list (il m)], .fro [.int .i64 p], .own [.p (.int .i64 (saF n m p f h).1), .p (.int .i64 (saF n m p f h).2)], .own [.p (.int .i64 (cf n m p h).1), .p (.int .i64 (cf n m p h).2)], .own (ol (diL f h p k))]⟩) (fun k => k ≤ n * n) (fun k => n * n - k) 0 (Nat.zero_le _) [0, 1, 5, 6, 8] (by simp only [leq, leA, ev0, evA, evB, evP, fl, gp, tab, simprocAttr, reduceCtorEq, reduceIte] <;> simp [diL, rg, ol_nil]) fun k hk => ?_
                    refine qm (qm ?_)
                    refine hk_region fun K hK => runs_eval tab_ok ?_
                    simp only [ev0, evA, evB, evP, fl, gp, tab, simprocAttr, reduceCtorEq, reduceIte]
                    refine fin_run trivial (hK _ ?_) <;> clear hK <;> clear K
                    refine qa ?_
                    refine hk_cond rfl (fun hC10 => ?_) (fun hC10 => ?_)
                    · (try simp only [nhs] at hC10)
                      have hkl : k < n * n := by omega
                      have b1 := f2 k (by omega)
                      have b2 := h2 k (by omega)
                      have hl' := hdl k
                      have tm : Int.tmod (f.getD k 0 + p - h.getD k 0) p = (f.getD k 0 + p - h.getD k 0) % (p : Int) := Int.tmod_eq_emod_of_nonneg (by omega)
                      refine qh (qa (qm (ql ?_)))
                      refine hk_draw mixed (by kernel_rfl) fun K hK => runs_eval tab_ok ?_
                      simp only [ev0, evA, evB, evP, fl, gp, tab, simprocAttr, reduceCtorEq, reduceIte, il_get (show k < f.length by omega), il_get (show k < h.length by omega), tm]
                      refine fin_run ?_ (hK _ ?_) <;> clear hK <;> clear K
                      · (first | exact trivial | omega | (simp only [In64] at *; omega) | (simp [In64] at *; omega) | (simp_all; done) | skip)
                      refine qd (qa ?_)
                      refine hk_region fun K hK => runs_eval tab_ok ?_
                      simp only [ev0, evA, evB, evP, fl, gp, tab, simprocAttr, reduceCtorEq, reduceIte]
                      refine fin_run ?_ (hK _ ?_) <;> clear hK <;> clear K
                      · (first | exact trivial | omega | (simp only [In64] at *; omega) | (simp [In64] at *; omega) | (simp_all; done) | skip)
                      refine qa ?_
                      refine ⟨k + 1, [0, 1, 2, 3, 5], by omega, by omega, ?_⟩
                      rw [show diL f h p (k + 1) = diL f h p k ++ [(f.getD k 0 + p - h.getD k 0) % (p : Int)] from rg_succ _ _]
                      simp only [leq, leA, ev0, evA, evB, evP, fl, gp, tab, simprocAttr, reduceCtorEq, reduceIte] <;> first | trivial | omega
                    · (try simp only [nhs] at hC10)
                      refine qj (qc (qc (qf (qa ?_))))
                      have hkn : k = n * n := by omega
                      subst hkn
                      refine hk_seal 21 4 (w := diL f h p (n * n)) rfl rfl ?_
                      refine hk_region fun K hK => runs_eval tab_ok ?_
                      simp only [ev0, evA, evB, evP, fl, gp, tab, simprocAttr, reduceCtorEq, reduceIte]
                      refine fin_stop trivial (runs_call (solved_c hT hn hp (diL f h p (n * n)) (hdl _) hdr (saB n m p f h) (same_sol hT hp hf0 hh0)) rfl rfl rfl (by simp only [dstOk, Nat.reduceLT]) (by repeat (first | exact trivial | constructor)) (runs_eval tab_ok ?_))
                      simp only [ev0, evA, evB, evP, fl, gp, tab, simprocAttr, reduceCtorEq, reduceIte]
                      refine fin_run ?_ (hK _ ?_) <;> clear hK <;> clear K
                      · (first | exact trivial | omega | (simp only [In64] at *; omega) | (simp [In64] at *; omega) | (simp_all; done) | skip)
                      refine qa (qm ?_)
                      refine hk_region fun K hK => runs_eval tab_ok ?_
                      simp only [ev0, evA, evB, evP, fl, gp, tab, simprocAttr, reduceCtorEq, reduceIte, hF, beq_self_eq_true, Bool.and_self]
                      refine fin_run ?_ (hK _ ?_) <;> clear hK <;> clear K
                      · (first | exact trivial | omega | (simp only [In64] at *; omega) | (simp [In64] at *; omega) | (simp_all; done) | skip)
                      refine qa (qk ?_)
                      simp only [Try.results5, enA, ev0, evA, evB, evP, fl, gp, tab, simprocAttr, reduceCtorEq, reduceIte]
                      all_goals ((first | exact rfl | exact ⟨rfl, rfl⟩ | exact ⟨rfl, rfl, rfl⟩ | exact ⟨trivial, rfl⟩ | exact ⟨Nat.le_refl _, rfl⟩ | trivial | (simp; done)))
                  · (try simp only [nhs] at hC9)
                    have hF := hsF hC8
                    have hB := hsB (by rw [hF]; exact hC9)
                    refine qh (qa (qm ?_))
                    refine hk_region fun K hK => runs_eval tab_ok ?_
                    simp only [ev0, evA, evB, evP, fl, gp, tab, simprocAttr, reduceCtorEq, reduceIte, hF, hB, beq_self_eq_true, Bool.and_self]
                    refine fin_run ?_ (hK _ ?_) <;> clear hK <;> clear K
                    · (first | exact trivial | omega | (simp only [In64] at *; omega) | (simp [In64] at *; omega) | (simp_all; done) | skip)
                    refine qa (qk ?_)
                    simp only [Try.results5, enA, ev0, evA, evB, evP, fl, gp, tab, simprocAttr, reduceCtorEq, reduceIte]
                    all_goals ((first | exact rfl | exact ⟨rfl, rfl⟩ | exact ⟨rfl, rfl, rfl⟩ | exact ⟨trivial, rfl⟩ | exact ⟨Nat.le_refl _, rfl⟩ | trivial | (simp; done)))
                · (try simp only [nhs] at hC8)
                  refine qh (qa (qm ?_))
                  refine hk_region fun K hK => runs_eval tab_ok ?_
                  simp only [ev0, evA, evB, evP, fl, gp, tab, simprocAttr, reduceCtorEq, reduceIte]
                  refine fin_run trivial (hK _ ?_) <;> clear hK <;> clear K
                  refine qa (qm (qm ?_))
                  refine hk_region fun K hK => runs_eval tab_ok ?_
                  simp only [ev0, evA, evB, evP, fl, gp, tab, simprocAttr, reduceCtorEq, reduceIte]
                  refine fin_run ?_ (hK _ ?_) <;> clear hK <;> clear K
                  · (first | exact trivial | omega | (simp only [In64] at *; omega) | (simp [In64] at *; omega) | (simp_all; done) | skip)
                  refine qa ?_
                  refine hk_cond rfl (fun hC9 => ?_) (fun hC9 => ?_)
                  · (try simp only [nhs] at hC9)
                    exact absurd hC9 hC8
                  · (try simp only [nhs] at hC9)
                    have hF := hsF2 hC8
                    have hB := hsB (by rw [hF]; exact hC8)
                    refine qh (qa (qm ?_))
                    refine hk_region fun K hK => runs_eval tab_ok ?_
                    simp only [ev0, evA, evB, evP, fl, gp, tab, simprocAttr, reduceCtorEq, reduceIte, hF, hB, beq_self_eq_true, Bool.and_self]
                    refine fin_run ?_ (hK _ ?_) <;> clear hK <;> clear K
                    · (first | exact trivial | omega | (simp only [In64] at *; omega) | (simp [In64] at *; omega) | (simp_all; done) | skip)
                    refine qa (qk ?_)
                    simp only [Try.results5, enA, ev0, evA, evB, evP, fl, gp, tab, simprocAttr, reduceCtorEq, reduceIte]
                    all_goals ((first | exact rfl | exact ⟨rfl, rfl⟩ | exact ⟨rfl, rfl, rfl⟩ | exact ⟨trivial, rfl⟩ | exact ⟨Nat.le_refl _, rfl⟩ | trivial | (simp; done)))
            · cases hC6
      · refine hk_region fun K hK => runs_eval tab_ok ?_
        simp only [ev0, evA, evB, evP, fl, gp, tab, simprocAttr, reduceCtorEq, reduceIte, decide_eq_false g12a]
        refine fin_run ?_ (hK _ ?_) <;> clear hK <;> clear K
        · (first | exact trivial | omega | (simp only [In64] at *; omega) | (simp [In64] at *; omega) | (simp_all; done) | skip)
        refine qa ?_
        refine hk_cond rfl (fun hC3 => ?_) (fun hC3 => ?_)
        · cases hC3
        · refine qj (qc (qc (qf (qa (qm (qm ?_))))))
          have hvv : bf n p c = (v1, v2) := by
            rcases hi2 with hh | ⟨hh, hj⟩
            · exact hh.2.symm
            · simp only [Prod.mk.injEq] at hh
              rw [hh.1, hh.2]
              exact bf_0 hcl fun t ht => hj t (by omega)
          refine hk_freeze 0 rfl rfl ?_
          refine hk_freeze 1 rfl rfl ?_
          refine hk_freeze 2 rfl rfl ?_
          simp only [hset]
          refine hk_region fun K hK => runs_eval tab_ok ?_
          simp only [ev0, evA, evB, evP, fl, gp, tab, simprocAttr, reduceCtorEq, reduceIte, hvv]
          refine fin_stop trivial (runs_call (listAs_c (bdL n m p c) (v1, v2) _ _ hbl (fun h0 => hb0 (by rw [hvv]; exact h0)) (fun h0 => boundClo_c hT hn hp c (by rw [hvv]; exact h0))) rfl rfl rfl (by simp only [dstOk, Nat.reduceLT]) (by repeat (first | exact trivial | constructor)) (runs_eval tab_ok ?_))
          simp only [ev0, evA, evB, evP, fl, gp, tab, simprocAttr, reduceCtorEq, reduceIte, hvv]
          refine fin_run ?_ (hK _ ?_) <;> clear hK <;> clear K
          · (first | exact trivial | omega | (simp only [In64] at *; omega) | (simp [In64] at *; omega) | (simp_all; done) | skip)
          refine qa ?_
          refine hk_cond rfl (fun hC5 => ?_) (fun hC5 => ?_)
          · cases hC5
          · (try simp only [nhs] at hC5)
            refine qh (qa (qm (qm ?_)))
            refine hk_region fun K hK => runs_eval tab_ok ?_
            simp only [ev0, evA, evB, evP, fl, gp, tab, simprocAttr, reduceCtorEq, reduceIte]
            refine fin_run ?_ (hK _ ?_) <;> clear hK <;> clear K
            · (first | exact trivial | omega | (simp only [In64] at *; omega) | (simp [In64] at *; omega) | (simp_all; done) | skip)
            refine qa ?_
            refine hk_cond rfl (fun hC6 => ?_) (fun hC6 => ?_)
            · (try simp only [nhs] at hC6)
              refine hk_region fun K hK => runs_eval tab_ok ?_
              simp only [ev0, evA, evB, evP, fl, gp, tab, simprocAttr, reduceCtorEq, reduceIte]
              refine fin_stop trivial (runs_call (cocF_c hT hn hp f (by omega)) rfl rfl rfl (by simp only [dstOk, Nat.reduceLT]) (by repeat (first | exact trivial | constructor)) (runs_eval tab_ok ?_))
              simp only [ev0, evA, evB, evP, fl, gp, tab, simprocAttr, reduceCtorEq, reduceIte]
              refine fin_run ?_ (hK _ ?_) <;> clear hK <;> clear K
              · (first | exact trivial | omega | (simp only [In64] at *; omega) | (simp [In64] at *; omega) | (simp_all; done) | skip)
              refine qa (qm (qm ?_))
              refine hk_region fun K hK => runs_eval tab_ok ?_
              simp only [ev0, evA, evB, evP, fl, gp, tab, simprocAttr, reduceCtorEq, reduceIte, beq_self_eq_true, Bool.and_self, Bool.not_true]
              refine fin_run ?_ (hK _ ?_) <;> clear hK <;> clear K
              · (first | exact trivial | omega | (simp only [In64] at *; omega) | (simp [In64] at *; omega) | (simp_all; done) | skip)
              refine qa ?_
              refine hk_cond rfl (fun hC7 => ?_) (fun hC7 => ?_)
              · cases hC7
              · (try simp only [nhs] at hC7)
                refine qh (qa (qm (qm ?_)))
                refine hk_region fun K hK => runs_eval tab_ok ?_
                simp only [ev0, evA, evB, evP, fl, gp, tab, simprocAttr, reduceCtorEq, reduceIte]
                refine fin_run ?_ (hK _ ?_) <;> clear hK <;> clear K
                · (first | exact trivial | omega | (simp only [In64] at *; omega) | (simp [In64] at *; omega) | (simp_all; done) | skip)
                refine qa ?_
                refine hk_cond rfl (fun hC8 => ?_) (fun hC8 => ?_)
                · (try simp only [nhs] at hC8)
                  refine hk_region fun K hK => runs_eval tab_ok ?_
                  simp only [ev0, evA, evB, evP, fl, gp, tab, simprocAttr, reduceCtorEq, reduceIte]
                  refine fin_stop trivial (runs_call (cocF_c hT hn hp h (by omega)) rfl rfl rfl (by simp only [dstOk, Nat.reduceLT]) (by repeat (first | exact trivial | constructor)) (runs_eval tab_ok ?_))
                  simp only [ev0, evA, evB, evP, fl, gp, tab, simprocAttr, reduceCtorEq, reduceIte]
                  refine fin_run ?_ (hK _ ?_) <;> clear hK <;> clear K
                  · (first | exact trivial | omega | (simp only [In64] at *; omega) | (simp [In64] at *; omega) | (simp_all; done) | skip)
                  refine qa (qm ?_)
                  refine hk_region fun K hK => runs_eval tab_ok ?_
                  simp only [ev0, evA, evB, evP, fl, gp, tab, simprocAttr, reduceCtorEq, reduceIte]
                  refine fin_run trivial (hK _ ?_) <;> clear hK <;> clear K
                  refine qa (qm (qm ?_))
                  refine hk_region fun K hK => runs_eval tab_ok ?_
                  simp only [ev0, evA, evB, evP, fl, gp, tab, simprocAttr, reduceCtorEq, reduceIte]
                  refine fin_run ?_ (hK _ ?_) <;> clear hK <;> clear K
                  · (first | exact trivial | omega | (simp only [In64] at *; omega) | (simp [In64] at *; omega) | (simp_all; done) | skip)
                  refine qa ?_
                  refine hk_cond rfl (fun hC9 => ?_) (fun hC9 => ?_)
                  · (try simp only [nhs] at hC9)
                    have hf0 : (cf n m p f).1 = 0 := hC8
                    have hh0 : (cf n m p h).1 = 0 := hC9
                    obtain ⟨f1, f2, _, _⟩ := cf_0 hf0
                    obtain ⟨h1, h2, _, _⟩ := cf_0 hh0
                    have hF := hsF hC8
                    have hdl : ∀ k, (diL f h p k).length = k := fun k => rg_len _ _
                    have hdr : rng p (diL f h p (n * n)) := fun t ht => by
                      rw [hdl] at ht
                      unfold diL; rw [rg_get _ ht]; exact emod_rng (by omega) _
                    refine qm ?_
                    refine hk_region fun K hK => runs_eval tab_ok ?_
                    simp only [ev0, evA, evB, evP, fl, gp, tab, simprocAttr, reduceCtorEq, reduceIte]
                    refine fin_run trivial (hK _ ?_) <;> clear hK <;> clear K
                    refine qa (qm (qm ?_))
                    refine hk_own0 21 rfl ?_
                    refine hk_region fun K hK => runs_eval tab_ok ?_
                    simp only [ev0, evA, evB, evP, fl, gp, tab, simprocAttr, reduceCtorEq, reduceIte]
                    refine fin_run trivial (hK _ ?_) <;> clear hK <;> clear K
                    refine qa (ql ?_)
                    refine hk_loop (ι := Nat) (fun k => ⟨151, [(2, .p (.list (il f))), (3, .p (.list (il h))), (5, .ptr 0 0), (6, .ptr 1 0), (15, .p (.bool (saB n m p f h))), (16, .ptr 2 0), (17, .ptr 3 0), (21, .sl 4 0 (diL f h p k).length), (22, .p (.int .i64 k))], [.fro [.int .i64 n, .list (il m)], .fro [.int .i64 p], .own [.p (.int .i64 (saF n m p f h).1), .p (.int .i64 (saF n m p f h).2)], .own [.p (.int .i64 (cf n m p h).1), .p (.int .i64 (cf n m p h).2)], .own (ol (diL f h p k))]⟩) (fun k => k ≤ n * n) (fun k => n * n - k) 0 (Nat.zero_le _) [0, 1, 5, 6, 8] (by simp only [leq, leA, ev0, evA, evB, evP, fl, gp, tab, simprocAttr, reduceCtorEq, reduceIte] <;> simp [diL, rg, ol_nil]) fun k hk => ?_
                    refine qm (qm ?_)
                    refine hk_region fun K hK => runs_eval tab_ok ?_
                    simp only [ev0, evA, evB, evP, fl, gp, tab, simprocAttr, reduceCtorEq, reduceIte]
                    refine fin_run trivial (hK _ ?_) <;> clear hK <;> clear K
                    refine qa ?_
                    refine hk_cond rfl (fun hC10 => ?_) (fun hC10 => ?_)
                    · (try simp only [nhs] at hC10)
                      have hkl : k < n * n := by omega
                      have b1 := f2 k (by omega)
                      have b2 := h2 k (by omega)
                      have hl' := hdl k
                      have tm : Int.tmod (f.getD k 0 + p - h.getD k 0) p = (f.getD k 0 + p - h.getD k 0) % (p : Int) := Int.tmod_eq_emod_of_nonneg (by omega)
                      refine qh (qa (qm (ql ?_)))
                      refine hk_draw mixed (by kernel_rfl) fun K hK => runs_eval tab_ok ?_
                      simp only [ev0, evA, evB, evP, fl, gp, tab, simprocAttr, reduceCtorEq, reduceIte, il_get (show k < f.length by omega), il_get (show k < h.length by omega), tm]
                      refine fin_run ?_ (hK _ ?_) <;> clear hK <;> clear K
                      · (first | exact trivial | omega | (simp only [In64] at *; omega) | (simp [In64] at *; omega) | (simp_all; done) | skip)
                      refine qd (qa ?_)
                      refine hk_region fun K hK => runs_eval tab_ok ?_
                      simp only [ev0, evA, evB, evP, fl, gp, tab, simprocAttr, reduceCtorEq, reduceIte]
                      refine fin_run ?_ (hK _ ?_) <;> clear hK <;> clear K
                      · (first | exact trivial | omega | (simp only [In64] at *; omega) | (simp [In64] at *; omega) | (simp_all; done) | skip)
                      refine qa ?_
                      refine ⟨k + 1, [0, 1, 2, 3, 5], by omega, by omega, ?_⟩
                      rw [show diL f h p (k + 1) = diL f h p k ++ [(f.getD k 0 + p - h.getD k 0) % (p : Int)] from rg_succ _ _]
                      simp only [leq, leA, ev0, evA, evB, evP, fl, gp, tab, simprocAttr, reduceCtorEq, reduceIte] <;> first | trivial | omega
                    · (try simp only [nhs] at hC10)
                      refine qj (qc (qc (qf (qa ?_))))
                      have hkn : k = n * n := by omega
                      subst hkn
                      refine hk_seal 21 4 (w := diL f h p (n * n)) rfl rfl ?_
                      refine hk_region fun K hK => runs_eval tab_ok ?_
                      simp only [ev0, evA, evB, evP, fl, gp, tab, simprocAttr, reduceCtorEq, reduceIte]
                      refine fin_stop trivial (runs_call (solved_c hT hn hp (diL f h p (n * n)) (hdl _) hdr (saB n m p f h) (same_sol hT hp hf0 hh0)) rfl rfl rfl (by simp only [dstOk, Nat.reduceLT]) (by repeat (first | exact trivial | constructor)) (runs_eval tab_ok ?_))
                      simp only [ev0, evA, evB, evP, fl, gp, tab, simprocAttr, reduceCtorEq, reduceIte]
                      refine fin_run ?_ (hK _ ?_) <;> clear hK <;> clear K
                      · (first | exact trivial | omega | (simp only [In64] at *; omega) | (simp [In64] at *; omega) | (simp_all; done) | skip)
                      refine qa (qm ?_)
                      refine hk_region fun K hK => runs_eval tab_ok ?_
                      simp only [ev0, evA, evB, evP, fl, gp, tab, simprocAttr, reduceCtorEq, reduceIte, hF, beq_self_eq_true, Bool.and_self]
                      refine fin_run ?_ (hK _ ?_) <;> clear hK <;> clear K
                      · (first | exact trivial | omega | (simp only [In64] at *; omega) | (simp [In64] at *; omega) | (simp_all; done) | skip)
                      refine qa (qk ?_)
                      simp only [Try.results5, enA, ev0, evA, evB, evP, fl, gp, tab, simprocAttr, reduceCtorEq, reduceIte]
                      all_goals ((first | exact rfl | exact ⟨rfl, rfl⟩ | exact ⟨rfl, rfl, rfl⟩ | exact ⟨trivial, rfl⟩ | exact ⟨Nat.le_refl _, rfl⟩ | trivial | (simp; done)))
                  · (try simp only [nhs] at hC9)
                    have hF := hsF hC8
                    have hB := hsB (by rw [hF]; exact hC9)
                    refine qh (qa (qm ?_))
                    refine hk_region fun K hK => runs_eval tab_ok ?_
                    simp only [ev0, evA, evB, evP, fl, gp, tab, simprocAttr, reduceCtorEq, reduceIte, hF, hB, beq_self_eq_true, Bool.and_self]
                    refine fin_run ?_ (hK _ ?_) <;> clear hK <;> clear K
                    · (first | exact trivial | omega | (simp only [In64] at *; omega) | (simp [In64] at *; omega) | (simp_all; done) | skip)
                    refine qa (qk ?_)
                    simp only [Try.results5, enA, ev0, evA, evB, evP, fl, gp, tab, simprocAttr, reduceCtorEq, reduceIte]
                    all_goals ((first | exact rfl | exact ⟨rfl, rfl⟩ | exact ⟨rfl, rfl, rfl⟩ | exact ⟨trivial, rfl⟩ | exact ⟨Nat.le_refl _, rfl⟩ | trivial | (simp; done)))
                · (try simp only [nhs] at hC8)
                  refine qh (qa (qm ?_))
                  refine hk_region fun K hK => runs_eval tab_ok ?_
                  simp only [ev0, evA, evB, evP, fl, gp, tab, simprocAttr, reduceCtorEq, reduceIte]
                  refine fin_run trivial (hK _ ?_) <;> clear hK <;> clear K
                  refine qa (qm (qm ?_))
                  refine hk_region fun K hK => runs_eval tab_ok ?_
                  simp only [ev0, evA, evB, evP, fl, gp, tab, simprocAttr, reduceCtorEq, reduceIte]
                  refine fin_run ?_ (hK _ ?_) <;> clear hK <;> clear K
                  · (first | exact trivial | omega | (simp only [In64] at *; omega) | (simp [In64] at *; omega) | (simp_all; done) | skip)
                  refine qa ?_
                  refine hk_cond rfl (fun hC9 => ?_) (fun hC9 => ?_)
                  · (try simp only [nhs] at hC9)
                    exact absurd hC9 hC8
                  · (try simp only [nhs] at hC9)
                    have hF := hsF2 hC8
                    have hB := hsB (by rw [hF]; exact hC8)
                    refine qh (qa (qm ?_))
                    refine hk_region fun K hK => runs_eval tab_ok ?_
                    simp only [ev0, evA, evB, evP, fl, gp, tab, simprocAttr, reduceCtorEq, reduceIte, hF, hB, beq_self_eq_true, Bool.and_self]
                    refine fin_run ?_ (hK _ ?_) <;> clear hK <;> clear K
                    · (first | exact trivial | omega | (simp only [In64] at *; omega) | (simp [In64] at *; omega) | (simp_all; done) | skip)
                    refine qa (qk ?_)
                    simp only [Try.results5, enA, ev0, evA, evB, evP, fl, gp, tab, simprocAttr, reduceCtorEq, reduceIte]
                    all_goals ((first | exact rfl | exact ⟨rfl, rfl⟩ | exact ⟨rfl, rfl, rfl⟩ | exact ⟨trivial, rfl⟩ | exact ⟨Nat.le_refl _, rfl⟩ | trivial | (simp; done)))
            · cases hC6

theorem extChecks_c (N : Int) (m : List Int) (p : Int) (f h c : List Int) (hm : m.length ≤ 17592186043904) (hl : f.length ≤ 17592186043904) (hl2 : h.length ≤ 17592186043904) (hl3 : c.length ≤ 17592186043904) : FnC Try.prog 5 [gp N m, .int .i64 p, .list (il f), .list (il h), .list (il c)] (.bool true) := by
  by_cases hx : (xf N m p).1 = 0
  · obtain ⟨n, e, q, hT, hn, rfl, hq, _⟩ := xf_ok hx
    obtain rfl := hT.1
    by_cases hc : c.length = n
    · exact checks_3 hT hn hq f h c hl hl2 hl3 hc
    · exact checks_2 hT hn hq f h c hl hl2 hl3 hc
  · exact checks_1 N m p f h c hm hl hl2 hl3 hx

end Go.Proofs.Ythdmioeddgednaa
