/-
  Walks: rows of equations: a new one; a row is added. Conditions: none.
-/
import Derived.Test.YthdmioeddgednaaE1
set_option linter.all false
namespace Go.Proofs.Ythdmioeddgednaa
open Go.Pv

theorem mul49 {a x : Int} (h1 : 0 ≤ a) (h2 : a ≤ 7) (h3 : 0 ≤ x) (h4 : x ≤ 7) : 0 ≤ a * x ∧ a * x ≤ 49 :=
  ⟨Int.mul_nonneg h1 h3, Int.le_trans (Int.mul_le_mul h2 h4 h3 (by omega)) (by omega)⟩

theorem newRows_c (p : Nat) : FnM Try.prog 29 [.p (.int .i64 p)] [] (.ptr 0 0) [.own [.p (.int .i64 p), .mptr 1], .mp .i64 (dOf []) (vOf [])] := by
  refine fnm_of tab_ok Try.func29 rfl (by kernel_rfl) (by rw [Try.ntmps29]; exact Nat.le_add_left 1 _) ?_; rw [Try.ntmps29]; simp only [ancs, entA, List.length_cons, List.length_nil, List.cons_append, List.nil_append, Nat.reduceAdd, Nat.zero_add]
  refine qm ?_
  refine hk_region fun K hK => runs_eval tab_ok ?_
  simp only [ev0, evA, evB, evP, fl, gp, tab, simprocAttr, reduceCtorEq, reduceIte]
  refine fin_run trivial (hK _ ?_) <;> clear hK <;> clear K
  refine qa (qm ?_)
  refine hk_region fun K hK => runs_eval tab_ok ?_
  simp only [ev0, evA, evB, evP, fl, gp, tab, simprocAttr, reduceCtorEq, reduceIte]
  refine fin_run ?_ (hK _ ?_) <;> clear hK <;> clear K
  · (first | exact trivial | omega | (simp only [In64] at *; omega) | (simp [In64] at *; omega) | (simp_all; done) | skip)
  refine qa (qk ?_)
  simp only [Try.results29, PostG, endG, rvsA, rvA, mkTup, ev0, evA, evB, evP, fl, gp, tab, simprocAttr, reduceCtorEq, reduceIte]
  all_goals (refine ⟨[1, 0], rfl, rfl, rfl, by simp, ⟨⟨rfl, rfl⟩, rfl, trivial⟩, trivial⟩)

theorem clone_c (v : List Int) (h0 : v ≠ []) (hl : v.length ≤ 1000000) : FnG Try.prog 43 [.list (il v)] (.sl 0 0 v.length) [.own (ol v)] := by
  have hp : 0 < v.length := List.length_pos_iff.2 h0
  refine fng_of tab_ok Try.func43 rfl (by kernel_rfl) (by rw [Try.ntmps43]; exact Nat.le_add_left 1 _) ?_; rw [Try.ntmps43]
  refine qm ?_
  refine hk_region fun K hK => runs_eval tab_ok ?_
  simp only [ev0, evA, evB, evP, fl, gp, tab, simprocAttr, reduceCtorEq, reduceIte]
  refine fin_run trivial (hK _ ?_) <;> clear hK <;> clear K
  refine qa (qm (qm ?_))
  refine hk_region fun K hK => runs_eval tab_ok ?_
  simp only [ev0, evA, evB, evP, fl, gp, tab, simprocAttr, reduceCtorEq, reduceIte]
  refine fin_run ?_ (hK _ ?_) <;> clear hK <;> clear K
  · simp [il, h0]
  refine qa ?_
  refine hk_cond rfl (fun hC1 => ?_) (fun hC1 => ?_)
  · cases hC1
  · (try simp only [nhs] at hC1)
    refine qh (qa (qm ?_))
    refine hk_region fun K hK => runs_eval tab_ok ?_
    simp only [ev0, evA, evB, evP, fl, gp, tab, simprocAttr, reduceCtorEq, reduceIte]
    refine fin_run ?_ (hK _ ?_) <;> clear hK <;> clear K
    · (first | exact trivial | omega | (simp only [In64] at *; omega) | (simp [In64] at *; omega) | (simp_all; done) | skip)
    refine qa (qk ?_)
    simp only [Try.results43, PostG, endG, rvsA, rvA, mkTup, ev0, evA, evB, evP, fl, gp, tab, simprocAttr, reduceCtorEq, reduceIte]
    refine ⟨[0], rfl, rfl, rfl, by simp, ⟨⟨?_, ol_sc _ _⟩, trivial⟩, trivial⟩
    rw [ol_ren, take_len]

theorem add_c {p n : Nat} (hp : pr p) (hn : 0 < n) (hn2 : n ≤ 1000) (L : List (Nat × List Int)) (hL : Ech p n L) (v : List Int) (hv : v.length = n) (hb : ∀ t, t < n → -1000 ≤ v.getD t 0 ∧ v.getD t 0 ≤ 1000) :
    FnM Try.prog 31 [.ptr 0 0, .p (.list (il v))] [.own [.p (.int .i64 p), .mptr 1], .mp .i64 (dOf L) (vOf L)] (.p (.bool (addL p L v).2)) [.own [.p (.int .i64 p), .mptr 1], .mp .i64 (dOf (addL p L v).1) (vOf (addL p L v).1)] := by
  obtain ⟨hp2, hp7⟩ := hp.le
  have hp0 : 0 < p := by omega
  have hne : v ≠ [] := by intro e; rw [e] at hv; simp at hv; omega
  refine fnm_of tab_ok Try.func31 rfl (by kernel_rfl) (by rw [Try.ntmps31]; exact Nat.le_add_left 2 _) ?_; rw [Try.ntmps31]; simp only [ancs, entA, List.length_cons, List.length_nil, List.cons_append, List.nil_append, Nat.reduceAdd, Nat.zero_add]
  refine qm ?_
  refine hk_region fun K hK => runs_eval tab_ok ?_
  simp only [ev0, evA, evB, evP, fl, gp, tab, simprocAttr, reduceCtorEq, reduceIte]
  refine fin_run trivial (hK _ ?_) <;> clear hK <;> clear K
  refine qa (qm ?_)
  refine hk_region fun K hK => runs_eval tab_ok ?_
  simp only [ev0, evA, evB, evP, fl, gp, tab, simprocAttr, reduceCtorEq, reduceIte]
  refine fin_stop trivial (runs_callG (clone_c v hne (by omega)) rfl rfl (by first | rfl | (simp [scG, scA, sc1, opl]; done) | (simp only [scG, List.all_cons, List.all_nil, ol_sc, Bool.and_true]; rfl)) (by simp only [dstOk, Nat.reduceLT]) (by repeat (first | exact trivial | constructor)) (runs_eval tab_ok ?_))
  simp only [shf, List.range', Blk.ren, opl_ren, ren, ren1, ev0, evA, evB, evP, fl, gp, tab, simprocAttr, reduceCtorEq, reduceIte, hv, ol_sc, ol_ren]
  refine fin_run trivial (hK _ ?_) <;> clear hK <;> clear K
  refine qa (qm (qm ?_))
  refine hk_region fun K hK => runs_eval tab_ok ?_
  simp only [ev0, evA, evB, evP, fl, gp, tab, simprocAttr, reduceCtorEq, reduceIte]
  refine fin_run trivial (hK _ ?_) <;> clear hK <;> clear K
  refine qa (ql ?_)
  refine hk_loop (ι := Nat) (fun i => ⟨145, [(0, .ptr 0 0), (1, .sl 4 0 n), (16, .p (.int .i64 n)), (17, .p (.int .i64 i))], [.own [.p (.int .i64 p), .mptr 1], .mp .i64 (dOf L) (vOf L), .anc 0 0, .anc 1 1, .own (ol (updR (fun t => v.getD t 0 % p) 0 i v))]⟩) (fun i => i ≤ n) (fun i => n - i) 0 (Nat.zero_le _) [0, 1, 2, 3, 4] (by rw [updR_start]; simp only [leq, leA, ev0, evA, evB, evP, fl, gp, tab, simprocAttr, reduceCtorEq, reduceIte] <;> simp [hv, ol_length, ← hv, take_len]) fun i hi => ?_
  refine qm ?_
  refine hk_region fun K hK => runs_eval tab_ok ?_
  simp only [ev0, evA, evB, evP, fl, gp, tab, simprocAttr, reduceCtorEq, reduceIte]
  refine fin_run trivial (hK _ ?_) <;> clear hK <;> clear K
  refine qa (qm ?_)
  refine hk_cond rfl (fun hC1 => ?_) (fun hC1 => ?_)
  · (try simp only [nhs] at hC1)
    have hi1 : i < n := by omega
    have hl : (updR (fun t => v.getD t 0 % (p : Int)) 0 i v).length = n := by rw [updR_len, hv]
    have hg : ∀ d, (ol (updR (fun t => v.getD t 0 % (p : Int)) 0 i v)).getD i d = .p (.int .i64 (v.getD i 0)) := fun d => by
      rw [ol_get (by omega), updR_get (by omega), if_neg (by omega)]
    have hs : (updR (fun t => v.getD t 0 % (p : Int)) 0 i v).set i (v.getD i 0 % p) = updR (fun t => v.getD t 0 % (p : Int)) 0 (i + 1) v := updR_set (f := fun t => v.getD t 0 % (p : Int)) (Nat.zero_le _) (by omega)
    have hbi := hb i hi1
    have ht1 := Int.lt_tmod_of_pos (v.getD i 0) (show (0 : Int) < p by omega)
    have ht2 := Int.tmod_lt_of_pos (v.getD i 0) (show (0 : Int) < p by omega)
    refine qh (qa (qm (ql (qm ?_))))
    refine hk_region fun K hK => runs_eval tab_ok ?_
    simp only [ev0, evA, evB, evP, fl, gp, tab, simprocAttr, reduceCtorEq, reduceIte]
    refine fin_run trivial (hK _ ?_) <;> clear hK <;> clear K
    refine qa ?_
    refine hk_draw mixed (by kernel_rfl) fun K hK => runs_eval tab_ok ?_
    simp only [ev0, evA, evB, evP, fl, gp, tab, simprocAttr, reduceCtorEq, reduceIte, hg, tmod2 hp0, ol_set, hs, hl]
    refine fin_run ?_ (hK _ ?_) <;> clear hK <;> clear K
    · (first | exact trivial | omega | (simp only [In64] at *; omega) | (simp [In64] at *; omega) | (simp_all; done) | skip)
    refine qd (qa ?_)
    refine hk_region fun K hK => runs_eval tab_ok ?_
    simp only [ev0, evA, evB, evP, fl, gp, tab, simprocAttr, reduceCtorEq, reduceIte]
    refine fin_run ?_ (hK _ ?_) <;> clear hK <;> clear K
    · (first | exact trivial | omega | (simp only [In64] at *; omega) | (simp [In64] at *; omega) | (simp_all; done) | skip)
    refine qa ?_
    refine ⟨i + 1, [0, 1, 2, 3, 4], by omega, by omega, ?_⟩
    simp only [leq, leA, ev0, evA, evB, evP, fl, gp, tab, simprocAttr, reduceCtorEq, reduceIte] <;> omega
  · (try simp only [nhs] at hC1)
    refine qj (qc (qc (qf (qa (qm (qm ?_))))))
    refine hk_region fun K hK => runs_eval tab_ok ?_
    simp only [ev0, evA, evB, evP, fl, gp, tab, simprocAttr, reduceCtorEq, reduceIte]
    refine fin_run trivial (hK _ ?_) <;> clear hK <;> clear K
    refine qa (ql ?_)
    have hL2 : (updR (fun t => v.getD t 0 % (p : Int)) 0 i v) = nrm p v := by
      unfold nrm
      rw [show i = v.length by simp at hC1; omega]
    refine hk_loop (ι := Nat × List Int) (fun x => ⟨145, [(0, .ptr 0 0), (1, .sl 4 0 n), (44, .p (.int .i64 n)), (45, .p (.int .i64 x.1))], [.own [.p (.int .i64 p), .mptr 1], .mp .i64 (dOf L) (vOf L), .anc 0 0, .anc 1 1, .own (ol x.2)]⟩) (fun x => x.1 ≤ n ∧ x.2.length = n ∧ rng p x.2 ∧ scan p L (n - x.1) x.1 x.2 = addL p L v) (fun x => n - x.1) (0, nrm p v) ⟨Nat.zero_le _, by rw [nrm, updR_len, hv], nrm_rng hp0 v, by rw [addL, hv]; rfl⟩ [0, 1, 2, 3, 4] (by rw [hL2]; simp only [leq, leA, ev0, evA, evB, evP, fl, gp, tab, simprocAttr, reduceCtorEq, reduceIte]) fun x hx => ?_
    obtain ⟨j, u⟩ := x
    obtain ⟨hj1, hu1, hu2, hu3⟩ := hx
    simp only at hj1 hu1 hu2 hu3
    refine qm ?_
    refine hk_region fun K hK => runs_eval tab_ok ?_
    simp only [ev0, evA, evB, evP, fl, gp, tab, simprocAttr, reduceCtorEq, reduceIte]
    refine fin_run trivial (hK _ ?_) <;> clear hK <;> clear K
    refine qa (qm ?_)
    refine hk_cond rfl (fun hC2 => ?_) (fun hC2 => ?_)
    · (try simp only [nhs] at hC2)
      have hjn : j < n := by omega
      obtain ⟨m, hm⟩ : ∃ m, n - j = m + 1 := ⟨n - j - 1, by omega⟩
      have hg : ∀ d, (ol u).getD j d = .p (.int .i64 (u.getD j 0)) := fun d => ol_get (by omega) d
      obtain ⟨hr1, hr2⟩ := hu2 j (by omega)
      refine qh (qa (qm (ql (qm ?_))))
      refine hk_region fun K hK => runs_eval tab_ok ?_
      simp only [ev0, evA, evB, evP, fl, gp, tab, simprocAttr, reduceCtorEq, reduceIte]
      refine fin_run trivial (hK _ ?_) <;> clear hK <;> clear K
      refine qa (qm (qm ?_))
      refine hk_region fun K hK => runs_eval tab_ok ?_
      simp only [ev0, evA, evB, evP, fl, gp, tab, simprocAttr, reduceCtorEq, reduceIte, hg]
      refine fin_run ?_ (hK _ ?_) <;> clear hK <;> clear K
      · (first | exact trivial | omega | (simp only [In64] at *; omega) | (simp [In64] at *; omega) | (simp_all; done) | skip)
      refine qa ?_
      refine hk_cond rfl (fun hC3 => ?_) (fun hC3 => ?_)
      · (try simp only [nhs] at hC3)
        refine qj (qc (qf (qa ?_)))
        refine hk_region fun K hK => runs_eval tab_ok ?_
        simp only [ev0, evA, evB, evP, fl, gp, tab, simprocAttr, reduceCtorEq, reduceIte]
        refine fin_run ?_ (hK _ ?_) <;> clear hK <;> clear K
        · (first | exact trivial | omega | (simp only [In64] at *; omega) | (simp [In64] at *; omega) | (simp_all; done) | skip)
        refine qa ?_
        refine ⟨(j + 1, u), [0, 1, 2, 3, 4], ⟨by omega, hu1, hu2, ?_⟩, by omega, ?_⟩
        · rw [hm] at hu3
          rw [scan, if_pos hC3] at hu3
          rw [show n - (j + 1) = m by omega]; exact hu3
        · simp only [leq, leA, ev0, evA, evB, evP, fl, gp, tab, simprocAttr, reduceCtorEq, reduceIte] <;> omega
      · (try simp only [nhs] at hC3)
        refine qh (qa (qm ?_))
        rcases hk : lkp L j with _ | w
        · refine hk_region fun K hK => runs_eval tab_ok ?_
          simp only [ev0, evA, evB, evP, fl, gp, tab, simprocAttr, reduceCtorEq, reduceIte, (show dOf L (j : Int) = false by rw [dOf_iff, hk]; rfl)]
          refine fin_run ?_ (hK _ ?_) <;> clear hK <;> clear K
          · (first | exact trivial | omega | (simp only [In64] at *; omega) | (simp [In64] at *; omega) | (simp_all; done) | skip)
          refine qa (qm (qm ?_))
          refine hk_region fun K hK => runs_eval tab_ok ?_
          simp only [ev0, evA, evB, evP, fl, gp, tab, simprocAttr, reduceCtorEq, reduceIte]
          refine fin_run trivial (hK _ ?_) <;> clear hK <;> clear K
          refine qa ?_
          refine hk_cond rfl (fun hC4 => ?_) (fun hC4 => ?_)
          · (try simp only [nhs] at hC4)
            refine qm ?_
            refine hk_region fun K hK => runs_eval tab_ok ?_
            simp only [ev0, evA, evB, evP, fl, gp, tab, simprocAttr, reduceCtorEq, reduceIte]
            refine fin_run trivial (hK _ ?_) <;> clear hK <;> clear K
            refine qa (qm (ql ?_))
            have h0 : 0 < u.getD j 0 := by omega
            obtain ⟨k1, k2, k3, k4⟩ := inv_spec hp h0 hr2
            have hR : addL p L v = ((j, mulAll p (inv p (u.getD j 0)) u) :: L, true) := by
              rw [← hu3, hm, scan, if_neg hC3, hk]
            refine hk_loop (ι := Nat) (fun k => ⟨145, [(0, .ptr 0 0), (1, .sl 4 0 n), (6, .p (.int .i64 j)), (9, .p (.int .i64 k))], [.own [.p (.int .i64 p), .mptr 1], .mp .i64 (dOf L) (vOf L), .anc 0 0, .anc 1 1, .own (ol u)]⟩) (fun k => k ≤ inv p (u.getD j 0)) (fun k => 8 - k) 1 k1 [0, 1, 2, 3, 4] (by simp only [leq, leA, ev0, evA, evB, evP, fl, gp, tab, simprocAttr, reduceCtorEq, reduceIte]) fun k hk3 => ?_
            have h49 := mul49 (a := (k : Int)) (x := u.getD j 0) (by omega) (by omega) hr1 (by omega)
            have htm : Int.tmod ((k : Int) * u.getD j 0) p = ((k : Int) * u.getD j 0) % p := Int.tmod_eq_emod_of_nonneg h49.1
            refine qm (qm ?_)
            refine hk_draw mixed (by kernel_rfl) fun K hK => runs_eval tab_ok ?_
            simp only [ev0, evA, evB, evP, fl, gp, tab, simprocAttr, reduceCtorEq, reduceIte, hg, htm]
            refine fin_run ?_ (hK _ ?_) <;> clear hK <;> clear K
            · (first | exact trivial | omega | (simp only [In64] at *; omega) | (simp [In64] at *; omega) | (simp_all; done) | skip)
            refine qa ?_
            refine hk_cond rfl (fun hC5 => ?_) (fun hC5 => ?_)
            · (try simp only [nhs] at hC5)
              refine qh (qa (ql ?_))
              refine hk_region fun K hK => runs_eval tab_ok ?_
              simp only [ev0, evA, evB, evP, fl, gp, tab, simprocAttr, reduceCtorEq, reduceIte]
              refine fin_run ?_ (hK _ ?_) <;> clear hK <;> clear K
              · (first | exact trivial | omega | (simp only [In64] at *; omega) | (simp [In64] at *; omega) | (simp_all; done) | skip)
              refine qd (qa ?_)
              have hne3 : k ≠ inv p (u.getD j 0) := fun e => hC5 (by rw [e]; exact k3)
              refine ⟨k + 1, [0, 1, 2, 3, 4], by omega, by omega, ?_⟩
              simp only [leq, leA, ev0, evA, evB, evP, fl, gp, tab, simprocAttr, reduceCtorEq, reduceIte] <;> omega
            · (try simp only [nhs] at hC5)
              refine qj (qc (qc (qf (qa (qm (qm ?_))))))
              refine hk_region fun K hK => runs_eval tab_ok ?_
              simp only [ev0, evA, evB, evP, fl, gp, tab, simprocAttr, reduceCtorEq, reduceIte]
              refine fin_run trivial (hK _ ?_) <;> clear hK <;> clear K
              refine qa (ql ?_)
              have hke : k = inv p (u.getD j 0) := by
                rcases Nat.lt_or_ge k (inv p (u.getD j 0)) with h | h
                · exact absurd (by simpa using hC5) (k4 k h)
                · omega
              subst hke
              refine hk_loop (ι := Nat) (fun t => ⟨145, [(0, .ptr 0 0), (1, .sl 4 0 n), (6, .p (.int .i64 j)), (9, .p (.int .i64 (inv p (u.getD j 0) : Nat))), (79, .p (.int .i64 n)), (80, .p (.int .i64 t))], [.own [.p (.int .i64 p), .mptr 1], .mp .i64 (dOf L) (vOf L), .anc 0 0, .anc 1 1, .own (ol (updR (fun q => u.getD q 0 * (inv p (u.getD j 0) : Nat) % p) 0 t u))]⟩) (fun t => t ≤ n) (fun t => n - t) 0 (Nat.zero_le _) [0, 1, 2, 3, 4] (by rw [updR_start]; simp only [leq, leA, ev0, evA, evB, evP, fl, gp, tab, simprocAttr, reduceCtorEq, reduceIte]) fun t ht => ?_
              refine qm ?_
              refine hk_region fun K hK => runs_eval tab_ok ?_
              simp only [ev0, evA, evB, evP, fl, gp, tab, simprocAttr, reduceCtorEq, reduceIte]
              refine fin_run trivial (hK _ ?_) <;> clear hK <;> clear K
              refine qa (qm ?_)
              refine hk_cond rfl (fun hC6 => ?_) (fun hC6 => ?_)
              · (try simp only [nhs] at hC6)
                have htn : t < n := by omega
                obtain ⟨hq1, hq2⟩ := hu2 t (by omega)
                have hl : (updR (fun q => u.getD q 0 * (inv p (u.getD j 0) : Nat) % (p : Int)) 0 t u).length = n := by rw [updR_len, hu1]
                have hg2 : ∀ d, (ol (updR (fun q => u.getD q 0 * (inv p (u.getD j 0) : Nat) % (p : Int)) 0 t u)).getD t d = .p (.int .i64 (u.getD t 0)) := fun d => by
                  rw [ol_get (by omega), updR_get (by omega), if_neg (by omega)]
                have hs : (updR (fun q => u.getD q 0 * (inv p (u.getD j 0) : Nat) % (p : Int)) 0 t u).set t (u.getD t 0 * (inv p (u.getD j 0) : Nat) % p) = updR (fun q => u.getD q 0 * (inv p (u.getD j 0) : Nat) % (p : Int)) 0 (t + 1) u := updR_set (f := fun q => u.getD q 0 * (inv p (u.getD j 0) : Nat) % (p : Int)) (Nat.zero_le _) (by omega)
                have h49 := mul49 (a := u.getD t 0) (x := (inv p (u.getD j 0) : Nat)) hq1 (by omega) (by omega) (by omega)
                have htm : Int.tmod (u.getD t 0 * (inv p (u.getD j 0) : Nat)) p = (u.getD t 0 * (inv p (u.getD j 0) : Nat)) % p := Int.tmod_eq_emod_of_nonneg h49.1
                refine qh (qa (qm (ql (qm ?_))))
                refine hk_region fun K hK => runs_eval tab_ok ?_
                simp only [ev0, evA, evB, evP, fl, gp, tab, simprocAttr, reduceCtorEq, reduceIte]
                refine fin_run trivial (hK _ ?_) <;> clear hK <;> clear K
                refine qa ?_
                refine hk_draw mixed (by kernel_rfl) fun K hK => runs_eval tab_ok ?_
                simp only [ev0, evA, evB, evP, fl, gp, tab, simprocAttr, reduceCtorEq, reduceIte, hg2, htm, ol_set, hs, hl]
                refine fin_run ?_ (hK _ ?_) <;> clear hK <;> clear K
                · (first | exact trivial | omega | (simp only [In64] at *; omega) | (simp [In64] at *; omega) | (simp_all; done) | skip)
                refine qd (qa ?_)
                refine hk_region fun K hK => runs_eval tab_ok ?_
                simp only [ev0, evA, evB, evP, fl, gp, tab, simprocAttr, reduceCtorEq, reduceIte]
                refine fin_run ?_ (hK _ ?_) <;> clear hK <;> clear K
                · (first | exact trivial | omega | (simp only [In64] at *; omega) | (simp [In64] at *; omega) | (simp_all; done) | skip)
                refine qa ?_
                refine ⟨t + 1, [0, 1, 2, 3, 4], by omega, by omega, ?_⟩
                simp only [leq, leA, ev0, evA, evB, evP, fl, gp, tab, simprocAttr, reduceCtorEq, reduceIte] <;> omega
              · (try simp only [nhs] at hC6)
                refine qj (qc (qc (qf (qa (qm ?_)))))
                have hte : t = n := by simp at hC6; omega
                subst hte
                have hml : (mulAll p (inv p (u.getD j 0) : Nat) u).length = t := by rw [mulAll, updR_len, hu1]
                refine hk_seal 1 4 (w := mulAll p (inv p (u.getD j 0) : Nat) u) (by rw [hml]; rfl) (by rw [← hu1]; rfl) ?_
                refine hk_region fun K hK => runs_eval tab_ok ?_
                simp only [ev0, evA, evB, evP, fl, gp, tab, simprocAttr, reduceCtorEq, reduceIte]
                refine fin_run ?_ (hK _ ?_) <;> clear hK <;> clear K
                · (first | exact trivial | omega | (simp only [In64] at *; omega) | (simp [In64] at *; omega) | (simp_all; done) | skip)
                refine qa (qm ?_)
                refine hk_region fun K hK => runs_eval tab_ok ?_
                simp only [ev0, evA, evB, evP, fl, gp, tab, simprocAttr, reduceCtorEq, reduceIte]
                refine fin_run trivial (hK _ ?_) <;> clear hK <;> clear K
                refine qa (qk (qb (qe (qb (qb (qe (qb ?_)))))))
                simp only [Try.results31, PostG, endG, rvsA, rvA, mkTup, ev0, evA, evB, evP, fl, gp, tab, simprocAttr, reduceCtorEq, reduceIte]
                rw [hR]
                exact ⟨[0, 1, 2, 3], rfl, rfl, rfl, by simp, ⟨⟨rfl, rfl⟩, rfl, ⟨rfl, by decide⟩, ⟨rfl, by decide⟩, trivial⟩, trivial⟩
          · cases hC4
        · refine hk_region fun K hK => runs_eval tab_ok ?_
          simp only [ev0, evA, evB, evP, fl, gp, tab, simprocAttr, reduceCtorEq, reduceIte, (show dOf L (j : Int) = true by rw [dOf_iff, hk]; rfl), vOf_some hk]
          refine fin_run ?_ (hK _ ?_) <;> clear hK <;> clear K
          · (first | exact trivial | omega | (simp only [In64] at *; omega) | (simp [In64] at *; omega) | (simp_all; done) | skip)
          refine qa (qm (qm ?_))
          refine hk_region fun K hK => runs_eval tab_ok ?_
          simp only [ev0, evA, evB, evP, fl, gp, tab, simprocAttr, reduceCtorEq, reduceIte]
          refine fin_run trivial (hK _ ?_) <;> clear hK <;> clear K
          refine qa ?_
          refine hk_cond rfl (fun hC4 => ?_) (fun hC4 => ?_)
          · cases hC4
          · (try simp only [nhs] at hC4)
            refine qh (qa (qm ?_))
            refine hk_region fun K hK => runs_eval tab_ok ?_
            simp only [ev0, evA, evB, evP, fl, gp, tab, simprocAttr, reduceCtorEq, reduceIte]
            refine fin_run ?_ (hK _ ?_) <;> clear hK <;> clear K
            · (first | exact trivial | omega | (simp only [In64] at *; omega) | (simp [In64] at *; omega) | (simp_all; done) | skip)
            refine qa (qm ?_)
            refine hk_region fun K hK => runs_eval tab_ok ?_
            simp only [ev0, evA, evB, evP, fl, gp, tab, simprocAttr, reduceCtorEq, reduceIte]
            refine fin_run trivial (hK _ ?_) <;> clear hK <;> clear K
            refine qa (ql ?_)
            have hwl : w.length = n := hL.len _ (lkp_mem hk)
            have hwr : rng p w := hL.rg _ (lkp_mem hk)
            refine hk_loop (ι := Nat) (fun t => ⟨145, [(0, .ptr 0 0), (1, .sl 4 0 n), (7, .p (.list (il w))), (11, .p (.int .i64 (u.getD j 0))), (12, .p (.int .i64 t)), (44, .p (.int .i64 n)), (45, .p (.int .i64 j))], [.own [.p (.int .i64 p), .mptr 1], .mp .i64 (dOf L) (vOf L), .anc 0 0, .anc 1 1, .own (ol (updR (fun q => (u.getD q 0 - u.getD j 0 * w.getD q 0) % p) j t u))]⟩) (fun t => j ≤ t ∧ t ≤ n) (fun t => n - t) j ⟨Nat.le_refl _, hj1⟩ [0, 1, 2, 3, 4] (by rw [updR_start]; simp only [leq, leA, ev0, evA, evB, evP, fl, gp, tab, simprocAttr, reduceCtorEq, reduceIte]; exact hg _) fun t ht => ?_
            obtain ⟨ht1, ht2⟩ := ht
            refine qm (qm ?_)
            refine hk_region fun K hK => runs_eval tab_ok ?_
            simp only [ev0, evA, evB, evP, fl, gp, tab, simprocAttr, reduceCtorEq, reduceIte]
            refine fin_run trivial (hK _ ?_) <;> clear hK <;> clear K
            refine qa ?_
            refine hk_cond rfl (fun hC7 => ?_) (fun hC7 => ?_)
            · (try simp only [nhs] at hC7)
              have htn : t < n := by omega
              obtain ⟨hq1, hq2⟩ := hu2 t (by omega)
              obtain ⟨hw1, hw2⟩ := hwr t (by omega)
              have hl : (updR (fun q => (u.getD q 0 - u.getD j 0 * w.getD q 0) % (p : Int)) j t u).length = n := by rw [updR_len, hu1]
              have hg2 : ∀ d, (ol (updR (fun q => (u.getD q 0 - u.getD j 0 * w.getD q 0) % (p : Int)) j t u)).getD t d = .p (.int .i64 (u.getD t 0)) := fun d => by
                rw [ol_get (by omega), updR_get (by omega), if_neg (by omega)]
              have hs : (updR (fun q => (u.getD q 0 - u.getD j 0 * w.getD q 0) % (p : Int)) j t u).set t ((u.getD t 0 - u.getD j 0 * w.getD t 0) % p) = updR (fun q => (u.getD q 0 - u.getD j 0 * w.getD q 0) % (p : Int)) j (t + 1) u := updR_set (f := fun q => (u.getD q 0 - u.getD j 0 * w.getD q 0) % (p : Int)) ht1 (by omega)
              have h49 := mul49 (a := u.getD j 0) (x := w.getD t 0) hr1 (by omega) hw1 (by omega)
              have hy1 := Int.lt_tmod_of_pos (u.getD t 0 - u.getD j 0 * w.getD t 0) (show (0 : Int) < p by omega)
              have hy2 := Int.tmod_lt_of_pos (u.getD t 0 - u.getD j 0 * w.getD t 0) (show (0 : Int) < p by omega)
              refine qh (qa (qm (ql ?_)))
              refine hk_draw mixed (by kernel_rfl) fun K hK => runs_eval tab_ok ?_
              simp only [ev0, evA, evB, evP, fl, gp, tab, simprocAttr, reduceCtorEq, reduceIte, hg2, il_get (show t < w.length by omega), tmod2 hp0, ol_set, hs, hl]
              refine fin_run ?_ (hK _ ?_) <;> clear hK <;> clear K
              · (first | exact trivial | omega | (simp only [In64] at *; omega) | (simp [In64] at *; omega) | (simp_all; done) | skip)
              refine qd (qa ?_)
              refine hk_region fun K hK => runs_eval tab_ok ?_
              simp only [ev0, evA, evB, evP, fl, gp, tab, simprocAttr, reduceCtorEq, reduceIte]
              refine fin_run ?_ (hK _ ?_) <;> clear hK <;> clear K
              · (first | exact trivial | omega | (simp only [In64] at *; omega) | (simp [In64] at *; omega) | (simp_all; done) | skip)
              refine qa ?_
              refine ⟨t + 1, [0, 1, 2, 3, 4], ⟨by omega, by omega⟩, by omega, ?_⟩
              simp only [leq, leA, ev0, evA, evB, evP, fl, gp, tab, simprocAttr, reduceCtorEq, reduceIte] <;> omega
            · (try simp only [nhs] at hC7)
              refine qj (qc (qc (qf (qd (qa ?_)))))
              refine hk_region fun K hK => runs_eval tab_ok ?_
              simp only [ev0, evA, evB, evP, fl, gp, tab, simprocAttr, reduceCtorEq, reduceIte]
              refine fin_run ?_ (hK _ ?_) <;> clear hK <;> clear K
              · (first | exact trivial | omega | (simp only [In64] at *; omega) | (simp [In64] at *; omega) | (simp_all; done) | skip)
              refine qa ?_
              have hte : t = n := by simp at hC7; omega
              refine ⟨(j + 1, redAt p w j u), [0, 1, 2, 3, 4], ⟨by omega, by rw [redAt, updR_len, hu1], redAt_rng hp0 hu2, ?_⟩, by omega, ?_⟩
              · rw [hm, scan, if_neg hC3, hk] at hu3
                rw [show n - (j + 1) = m by omega]; exact hu3
              · rw [redAt, hu1, ← hte]
                simp only [leq, leA, ev0, evA, evB, evP, fl, gp, tab, simprocAttr, reduceCtorEq, reduceIte] <;> omega
    · (try simp only [nhs] at hC2)
      refine qj (qc (qc (qf (qa (qm ?_)))))
      refine hk_region fun K hK => runs_eval tab_ok ?_
      simp only [ev0, evA, evB, evP, fl, gp, tab, simprocAttr, reduceCtorEq, reduceIte]
      refine fin_run trivial (hK _ ?_) <;> clear hK <;> clear K
      refine qa (qk ?_)
      simp only [Try.results31, PostG, endG, rvsA, rvA, mkTup, ev0, evA, evB, evP, fl, gp, tab, simprocAttr, reduceCtorEq, reduceIte]
      have hR : addL p L v = (L, false) := by
        rw [← hu3, show n - j = 0 by simp at hC2; omega]; rfl
      rw [hR]
      exact ⟨[0, 1, 2, 3], rfl, rfl, rfl, by simp, ⟨⟨rfl, rfl⟩, rfl, ⟨rfl, by decide⟩, ⟨rfl, by decide⟩, trivial⟩, trivial⟩

end Go.Proofs.Ythdmioeddgednaa
