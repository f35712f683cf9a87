/-
  Walks: the law ProdSemi. Conditions: none.
-/
import Derived.Test.YtdibogabmbnmnaaH7
import Derived.Test.YtdibogabmbnmnaaH9
import Derived.Test.YtdibogabmbnmnaaU1
set_option linter.all false
namespace Go.Proofs.Ytdibogabmbnmnaa
open Go.Pv

theorem psf_key (N : Int) (m : List Int) (N' : Int) (m' : List Int) (ls : List (List Int)) :
    (∃ n n' e e' : Nat, GT N m n e ∧ GT N' m' n' e' ∧ ls.length = n' ∧ (∀ j, j < n' → rwc n m (ls.getD j []) = 0) ∧ (∀ j, j < n' → mgd m' n' ls j) ∧ n * n' ≤ 60 ∧ tg N m N' m' = (0, 0)) ∨ (∃ w : Int × Int, ¬ w.1 = 0 ∧ tg N m N' m' = w ∧ psf N m N' m' ls = w) ∨ (tg N m N' m' = (0, 0) ∧ ¬ (ls.length : Int) = N' ∧ psf N m N' m' ls = (8, 0)) ∨
    (∃ n n' e e' : Nat, GT N m n e ∧ GT N' m' n' e' ∧ ls.length = n' ∧ tg N m N' m' = (0, 0) ∧ ¬ (psf N m N' m' ls).1 = 0) := by
  by_cases z : (tg N m N' m').1 = 0
  · obtain ⟨z1, z2⟩ := tg_zero z
    obtain ⟨n, e, h, _⟩ := gf_ok z1
    obtain ⟨n', e', h', _⟩ := gf_ok z2
    have ht : tg N m N' m' = (0, 0) := by
      unfold tg; rw [if_pos z1]
      obtain rfl := h'.1
      exact gf_of h'
    by_cases hl : (ls.length : Int) = N'
    · have hl' : ls.length = n' := by have := h'.1; omega
      by_cases hp : (psf N m N' m' ls).1 = 0
      · obtain rfl := h.1
        obtain rfl := h'.1
        left
        have hr : ∀ j, j < n' → rwc n m (ls.getD j []) = 0 := by
          intro j
          induction j using Nat.strongRecOn with
          | _ j ih =>
            intro hj
            by_cases hh : rwc n m (ls.getD j []) = 0
            · exact hh
            · rw [psf_row z hl (by omega) hh (fun k hk => ih k hk (by omega))] at hp
              exact absurd hp hh
        have h2 := psf_2 (m := m) (m' := m') z hl (fun j hj => hr j (by omega))
        rw [h2] at hp
        have hm : ∀ j, j < n' → mgd m' n' ls j := by
          intro j
          induction j using Nat.strongRecOn with
          | _ j ih =>
            intro hj
            by_cases hh : mgd m' n' ls j
            · exact hh
            · rw [psf2_7 hj hh (fun k hk => ih k hk (by omega))] at hp
              simp at hp
        rw [psf2_n hm] at hp
        by_cases hb : n * n' > 60
        · rw [if_pos hb] at hp; simp at hp
        · exact ⟨n, n', e, e', h, h', hl', hr, hm, by omega, ht⟩
      · exact .inr (.inr (.inr ⟨n, n', e, e', h, h', hl', ht, hp⟩))
    · exact .inr (.inr (.inl ⟨ht, hl, psf_8 z hl⟩))
  · exact .inr (.inl ⟨_, z, rfl, psf_tg z⟩)

set_option maxRecDepth 20000 in
set_option maxHeartbeats 8000000 in
theorem prodSemi_c (N : Int) (m : List Int) (N' : Int) (m' : List Int) (ls : List (List Int)) (hm : m.length ≤ 17592186043904) (hm' : m'.length ≤ 17592186043904) (hls : ls.length ≤ 17592186043904) (hrows : ∀ w ∈ ls, w.length ≤ 17592186043904) : FnC Try.prog 3 [gp N m, gp N' m', .list (ll ls)] (.bool true) := by
  refine fnc_of tab_ok Try.func3 rfl (by kernel_rfl) (by rw [Try.ntmps3]; exact Nat.le_add_left 3 _) ?_; rw [Try.ntmps3]
  repeat (first | refine qa ?_ | refine qb ?_ | refine qc ?_ | refine qd ?_ | refine qe ?_ | refine qf ?_ | refine qg rfl ?_ | refine qh ?_ | refine qi ?_ | refine qj ?_ | refine qk ?_ | refine ql ?_ | refine qm ?_)
  refine hk_region fun K hK => runs_eval tab_ok ?_
  simp only [ev0, evA, evB, evP, fl, gp, tab, simprocAttr, reduceCtorEq, reduceIte]
  refine fin_run ?_ (hK _ ?_) <;> clear hK <;> clear K
  · (first | exact trivial | omega | (simp only [In64] at *; omega) | (simp [In64] at *; omega) | (simp_all; done) | skip)
  repeat (first | refine qa ?_ | refine qb ?_ | refine qc ?_ | refine qd ?_ | refine qe ?_ | refine qf ?_ | refine qg rfl ?_ | refine qh ?_ | refine qi ?_ | refine qj ?_ | refine qk ?_ | refine ql ?_ | refine qm ?_)
  refine hk_region fun K hK => runs_eval tab_ok ?_
  simp only [ev0, evA, evB, evP, fl, gp, tab, simprocAttr, reduceCtorEq, reduceIte]
  refine fin_stop trivial (runs_call (prodBegun_c) rfl rfl rfl (by simp only [dstOk, Nat.reduceLT]) (by repeat (first | exact trivial | constructor)) (runs_eval tab_ok ?_))
  simp only [ev0, evA, evB, evP, fl, gp, tab, simprocAttr, reduceCtorEq, reduceIte]
  refine fin_run trivial (hK _ ?_) <;> clear hK <;> clear K
  repeat (first | refine qa ?_ | refine qb ?_ | refine qc ?_ | refine qd ?_ | refine qe ?_ | refine qf ?_ | refine qg rfl ?_ | refine qh ?_ | refine qi ?_ | refine qj ?_ | refine qk ?_ | refine ql ?_ | refine qm ?_)
  refine hk_cond rfl (fun hC1 => ?_) (fun hC1 => ?_)
  · cases hC1
  · (try simp only [nhs] at hC1)
    repeat (first | refine qa ?_ | refine qb ?_ | refine qc ?_ | refine qd ?_ | refine qe ?_ | refine qf ?_ | refine qg rfl ?_ | refine qh ?_ | refine qi ?_ | refine qj ?_ | refine qk ?_ | refine ql ?_ | refine qm ?_)
    refine hk_region fun K hK => runs_eval tab_ok ?_
    simp only [ev0, evA, evB, evP, fl, gp, tab, simprocAttr, reduceCtorEq, reduceIte, ll_length]
    refine fin_run trivial (hK _ ?_) <;> clear hK <;> clear K
    repeat (first | refine qa ?_ | refine qb ?_ | refine qc ?_ | refine qd ?_ | refine qe ?_ | refine qf ?_ | refine qg rfl ?_ | refine qh ?_ | refine qi ?_ | refine qj ?_ | refine qk ?_ | refine ql ?_ | refine qm ?_)
    refine hk_cond rfl (fun hC2 => ?_) (fun hC2 => ?_)
    · (try simp only [nhs] at hC2)
      repeat (first | refine qa ?_ | refine qb ?_ | refine qc ?_ | refine qd ?_ | refine qe ?_ | refine qf ?_ | refine qg rfl ?_ | refine qh ?_ | refine qi ?_ | refine qj ?_ | refine qk ?_ | refine ql ?_ | refine qm ?_)
      refine hk_region fun K hK => runs_eval tab_ok ?_
      simp only [ev0, evA, evB, evP, fl, gp, tab, simprocAttr, reduceCtorEq, reduceIte]
      refine fin_run trivial (hK _ ?_) <;> clear hK <;> clear K
      repeat (first | refine qa ?_ | refine qb ?_ | refine qc ?_ | refine qd ?_ | refine qe ?_ | refine qf ?_ | refine qg rfl ?_ | refine qh ?_ | refine qi ?_ | refine qj ?_ | refine qk ?_ | refine ql ?_ | refine qm ?_)
      simp only [Try.results3, enA, ev0, evA, evB, evP, fl, gp, tab, simprocAttr, reduceCtorEq, reduceIte]
      all_goals (rfl)
    · (try simp only [nhs] at hC2)
      repeat (first | refine qa ?_ | refine qb ?_ | refine qc ?_ | refine qd ?_ | refine qe ?_ | refine qf ?_ | refine qg rfl ?_ | refine qh ?_ | refine qi ?_ | refine qj ?_ | refine qk ?_ | refine ql ?_ | refine qm ?_)
      have hlen : ls.length ≤ 100 := by omega
      rcases psf_key N m N' m' ls with ⟨n, n', e, e', h, h', hl, hr, hmg, hle, ht⟩ | ⟨w, hw, ht, hps⟩ | ⟨ht, hl, hps⟩ | ⟨n, n', e, e', h, h', hl, ht, hps⟩
      · obtain rfl := h.1
        obtain rfl := h'.1
        have T := h.2.1
        have T' := h'.2.1
        have G := h.2.2
        have G' := h'.2.2
        have hs1 := T.big
        have hs2 := T'.big
        have hmul : (n : Int) * (n' : Int) = ((n * n' : Nat) : Int) := (Int.natCast_mul _ _).symm
        have A := acts_of hl hr hmg T
        have hrow : ∀ y, y < n' → (ls.getD y []).length = n ∧ ∀ i, i < n → (ls.getD y []).getD i 0 = ((alp ls y i : Nat) : Int) := fun y hy =>
          ⟨(rwc_ok (hr y hy)).1.1, fun i hi => ((rwc_ok (hr y hy)).1.2.1 i hi).1⟩
        have hrng : ∀ y, y < n' → ∀ x ∈ ls.getD y [], 0 ≤ x ∧ x < (n : Int) := fun y hy x hx => by
          obtain ⟨k, hk, rfl⟩ := List.getElem_of_mem hx
          have h1 := (hrow y hy).2 k (by have := (hrow y hy).1; omega)
          have h2 := A.lt y k hy (by have := (hrow y hy).1; omega)
          rw [List.getD, List.getElem?_eq_getElem hk] at h1
          simp only [Option.getD_some] at h1
          omega
        have hho : ∀ y, y < n' → homf n m n m (ls.getD y []) = (0, 0) := fun y hy => by
          have h1 := hr y hy
          unfold rwc at h1
          by_cases h2 : (homf n m n m (ls.getD y [])).1 = 0
          · obtain ⟨_, _, _, _, _, _, _, h3⟩ := homf_ok h2
            exact h3
          · rw [if_pos h2] at h1; exact absurd h1 h2
        have hsem := semi_ok h h' hl hr hmg hle
        have hsgt : GT (n * n' : Nat) (sg n n' m m' ls) (n * n') (e * n' + e') := tbl_GT' hle (smi_grp G G' A)
        have hsop : ∀ i k, i < n * n' → k < n * n' → op (sg n n' m m' ls) (n * n') i k = smi n' (op m n) (op m' n') (alp ls) i k := fun i k hi hk => tbl_op' _ hi hk
        have hslen : (sg n n' m m' ls).length = n * n' * (n * n') := tbl_len _ _
        have hsq := sq_le hle
        refine hk_draw2 mixed fun K hK => runs2_eval tab_ok ?_
        simp only [evD, ev0, evA, evB, evP, fl, gp, tab, simprocAttr, reduceCtorEq, reduceIte]
        refine fin2_stop trivial (runs2_call (ownGroup_c n m hm) rfl rfl rfl rfl (by simp only [dstOk, Nat.reduceLT]) (by repeat (first | exact trivial | constructor)) (runs2_eval tab_ok ?_))
        simp only [evD, ev0, evA, evB, evP, fl, gp, tab, simprocAttr, reduceCtorEq, reduceIte]
        refine fin2_stop trivial (runs2_call (ownGroup_c n' m' hm') rfl rfl rfl rfl (by simp only [dstOk, Nat.reduceLT]) (by repeat (first | exact trivial | constructor)) (runs2_eval tab_ok ?_))
        simp only [evD, ev0, evA, evB, evP, fl, gp, tab, simprocAttr, reduceCtorEq, reduceIte]
        refine fin2_stop trivial (runs2_call (ownLists_c ls (by omega) hrows) rfl rfl rfl rfl (by simp only [dstOk, Nat.reduceLT]) (by repeat (first | exact trivial | constructor)) (runs2_eval tab_ok ?_))
        simp only [evD, ev0, evA, evB, evP, fl, gp, tab, simprocAttr, reduceCtorEq, reduceIte]
        refine fin2_stop trivial (runs2_call (hsem) rfl rfl rfl rfl (by simp only [dstOk, Nat.reduceLT]) (by repeat (first | exact trivial | constructor)) (runs2_eval tab_ok ?_))
        simp only [evD, ev0, evA, evB, evP, fl, gp, tab, simprocAttr, reduceCtorEq, reduceIte]
        refine fin2_run ?_ (hK _ _ (by first | kernel_rfl | rfl) ?_) <;> clear hK <;> clear K
        · (first | exact trivial | omega | (simp only [In64] at *; omega) | (simp [In64] at *; omega) | (simp_all; done) | skip)
        repeat (first | refine qa ?_ | refine qb ?_ | refine qc ?_ | refine qd ?_ | refine qe ?_ | refine qf ?_ | refine qg rfl ?_ | refine qh ?_ | refine qi ?_ | refine qj ?_ | refine qk ?_ | refine ql ?_ | refine qm ?_)
        refine hk_region fun K hK => runs_eval tab_ok ?_
        simp only [ev0, evA, evB, evP, fl, gp, tab, simprocAttr, reduceCtorEq, reduceIte]
        refine fin_stop trivial (runs_call (twoGroups_c n m n' m' (by omega) (by omega)) rfl rfl rfl (by simp only [dstOk, Nat.reduceLT]) (by repeat (first | exact trivial | constructor)) (runs_eval tab_ok ?_))
        simp only [ev0, evA, evB, evP, fl, gp, tab, simprocAttr, reduceCtorEq, reduceIte, ht]
        refine fin_run ?_ (hK _ ?_) <;> clear hK <;> clear K
        · (first | exact trivial | omega | (simp only [In64] at *; omega) | (simp [In64] at *; omega) | (simp_all; done) | skip)
        repeat (first | refine qa ?_ | refine qb ?_ | refine qc ?_ | refine qd ?_ | refine qe ?_ | refine qf ?_ | refine qg rfl ?_ | refine qh ?_ | refine qi ?_ | refine qj ?_ | refine qk ?_ | refine ql ?_ | refine qm ?_)
        refine hk_region fun K hK => runs_eval tab_ok ?_
        simp only [ev0, evA, evB, evP, fl, gp, tab, simprocAttr, reduceCtorEq, reduceIte, ll_length, hl]
        refine fin_run ?_ (hK _ ?_) <;> clear hK <;> clear K
        · (first | exact trivial | omega | (simp only [In64] at *; omega) | (simp [In64] at *; omega) | (simp_all; done) | skip)
        repeat (first | refine qa ?_ | refine qb ?_ | refine qc ?_ | refine qd ?_ | refine qe ?_ | refine qf ?_ | refine qg rfl ?_ | refine qh ?_ | refine qi ?_ | refine qj ?_ | refine qk ?_ | refine ql ?_ | refine qm ?_)
        refine hk_cond rfl (fun hC3 => ?_) (fun hC3 => ?_)
        · cases hC3
        · (try simp only [nhs] at hC3)
          repeat (first | refine qa ?_ | refine qb ?_ | refine qc ?_ | refine qd ?_ | refine qe ?_ | refine qf ?_ | refine qg rfl ?_ | refine qh ?_ | refine qi ?_ | refine qj ?_ | refine qk ?_ | refine ql ?_ | refine qm ?_)
          refine hk_region fun K hK => runs_eval tab_ok ?_
          simp only [ev0, evA, evB, evP, fl, gp, tab, simprocAttr, reduceCtorEq, reduceIte]
          refine fin_run trivial (hK _ ?_) <;> clear hK <;> clear K
          repeat (first | refine qa ?_ | refine qb ?_ | refine qc ?_ | refine qd ?_ | refine qe ?_ | refine qf ?_ | refine qg rfl ?_ | refine qh ?_ | refine qi ?_ | refine qj ?_ | refine qk ?_ | refine ql ?_ | refine qm ?_)
          refine hk_cutB (⟨215, [(2, .p (.list (ll ls))), (3, .ptr 0 0), (4, .ptr 1 0), (7, .ptr 2 0), (8, .ptr 3 0), (9, .ptr 4 0)], [.own [.p (.int .i64 n), .p (.list (il m))], .own [.p (.int .i64 n'), .p (.list (il m'))], .own [.p (.int .i64 (n * n' : Nat)), .p (.list (il (sg n n' m m' ls)))], .own [.p (.int .i64 0), .p (.int .i64 0)], .own [.p (.int .i64 0), .p (.int .i64 0)]]⟩) ?_ ?_
          · repeat (first | refine qa ?_ | refine qb ?_ | refine qc ?_ | refine qd ?_ | refine qe ?_ | refine qf ?_ | refine qg rfl ?_ | refine qh ?_ | refine qi ?_ | refine qj ?_ | refine qk ?_ | refine ql ?_ | refine qm ?_)
            refine hk_loop (ι := Nat) (fun i => ⟨215, [(2, .p (.list (ll ls))), (3, .ptr 0 0), (4, .ptr 1 0), (7, .ptr 2 0), (8, .ptr 3 0), (9, .ptr 4 0), (10, .p (.int .i64 i))], [.own [.p (.int .i64 n), .p (.list (il m))], .own [.p (.int .i64 n'), .p (.list (il m'))], .own [.p (.int .i64 (n * n' : Nat)), .p (.list (il (sg n n' m m' ls)))], .own [.p (.int .i64 0), .p (.int .i64 0)], .own [.p (.int .i64 0), .p (.int .i64 0)]]⟩) (fun i => i ≤ n') (fun i => n' - i) 0 (Nat.zero_le _) [0, 1, 2, 3, 4] (by simp only [leq, leA, ev0, evA, evB, evP, fl, gp, tab, simprocAttr, reduceCtorEq, reduceIte] <;> trivial) fun i hi => ?_
            repeat (first | refine qa ?_ | refine qb ?_ | refine qc ?_ | refine qd ?_ | refine qe ?_ | refine qf ?_ | refine qg rfl ?_ | refine qh ?_ | refine qi ?_ | refine qj ?_ | refine qk ?_ | refine ql ?_ | refine qm ?_)
            by_cases g10a : (i : Int) < n'
            · refine hk_region fun K hK => runs_eval tab_ok ?_
              simp only [ev0, evA, evB, evP, fl, gp, tab, simprocAttr, reduceCtorEq, reduceIte, ll_length, hl, decide_eq_true g10a]
              refine fin_run ?_ (hK _ ?_) <;> clear hK <;> clear K
              · (first | exact trivial | omega | (simp only [In64] at *; omega) | (simp [In64] at *; omega) | (simp_all; done) | skip)
              repeat (first | refine qa ?_ | refine qb ?_ | refine qc ?_ | refine qd ?_ | refine qe ?_ | refine qf ?_ | refine qg rfl ?_ | refine qh ?_ | refine qi ?_ | refine qj ?_ | refine qk ?_ | refine ql ?_ | refine qm ?_)
              refine hk_cond rfl (fun hC4 => ?_) (fun hC4 => ?_)
              · (try simp only [nhs] at hC4)
                repeat (first | refine qa ?_ | refine qb ?_ | refine qc ?_ | refine qd ?_ | refine qe ?_ | refine qf ?_ | refine qg rfl ?_ | refine qh ?_ | refine qi ?_ | refine qj ?_ | refine qk ?_ | refine ql ?_ | refine qm ?_)
                have hlt : i < n' := by omega
                have hlr := (hrow i hlt).1
                refine hk_draw2 mixed fun K hK => runs2_eval tab_ok ?_
                simp only [evD, ev0, evA, evB, evP, fl, gp, tab, simprocAttr, reduceCtorEq, reduceIte, ll_length, ll_get (show i < ls.length by omega)]
                refine fin2_stop ?_ (runs2_call (homFault_c n m n m (ls.getD i []) (by omega) (by omega)) rfl rfl rfl rfl (by simp only [dstOk, Nat.reduceLT]) (by repeat (first | exact trivial | constructor)) (runs2_eval tab_ok ?_))
                · (first | exact trivial | omega | (simp only [In64] at *; omega) | (simp [In64] at *; omega) | (simp_all; done) | skip)
                simp only [evD, ev0, evA, evB, evP, fl, gp, tab, simprocAttr, reduceCtorEq, reduceIte, hho i hlt, ll_length, ll_get (show i < ls.length by omega)]
                refine fin2_run ?_ (hK _ _ (by first | kernel_rfl | rfl) ?_) <;> clear hK <;> clear K
                · (first | exact trivial | omega | (simp only [In64] at *; omega) | (simp [In64] at *; omega) | (simp_all; done) | skip)
                repeat (first | refine qa ?_ | refine qb ?_ | refine qc ?_ | refine qd ?_ | refine qe ?_ | refine qf ?_ | refine qg rfl ?_ | refine qh ?_ | refine qi ?_ | refine qj ?_ | refine qk ?_ | refine ql ?_ | refine qm ?_)
                refine hk_region fun K hK => runs_eval tab_ok ?_
                simp only [ev0, evA, evB, evP, fl, gp, tab, simprocAttr, reduceCtorEq, reduceIte]
                refine fin_run ?_ (hK _ ?_) <;> clear hK <;> clear K
                · (first | exact trivial | omega | (simp only [In64] at *; omega) | (simp [In64] at *; omega) | (simp_all; done) | skip)
                repeat (first | refine qa ?_ | refine qb ?_ | refine qc ?_ | refine qd ?_ | refine qe ?_ | refine qf ?_ | refine qg rfl ?_ | refine qh ?_ | refine qi ?_ | refine qj ?_ | refine qk ?_ | refine ql ?_ | refine qm ?_)
                refine hk_cond rfl (fun hC5 => ?_) (fun hC5 => ?_)
                · cases hC5
                · (try simp only [nhs] at hC5)
                  repeat (first | refine qa ?_ | refine qb ?_ | refine qc ?_ | refine qd ?_ | refine qe ?_ | refine qf ?_ | refine qg rfl ?_ | refine qh ?_ | refine qi ?_ | refine qj ?_ | refine qk ?_ | refine ql ?_ | refine qm ?_)
                  refine hk_draw mixed (by kernel_rfl) fun K hK => runs_eval tab_ok ?_
                  simp only [ev0, evA, evB, evP, fl, gp, tab, simprocAttr, reduceCtorEq, reduceIte, ll_length, ll_get (show i < ls.length by omega)]
                  refine fin_stop ?_ (runs_call (oneToOne_r (ls.getD i []) n (by omega) (by omega)) rfl rfl rfl (by simp only [dstOk, Nat.reduceLT]) (by repeat (first | exact trivial | constructor)) (runs_eval tab_ok ?_))
                  · (first | exact trivial | omega | (simp only [In64] at *; omega) | (simp [In64] at *; omega) | (simp_all; done) | skip)
                  simp only [ev0, evA, evB, evP, fl, gp, tab, simprocAttr, reduceCtorEq, reduceIte, decide_eq_true (rwc_ok (hr i hlt)).2, ll_length, ll_get (show i < ls.length by omega)]
                  refine fin_run ?_ (hK _ ?_) <;> clear hK <;> clear K
                  · (first | exact trivial | omega | (simp only [In64] at *; omega) | (simp [In64] at *; omega) | (simp_all; done) | skip)
                  repeat (first | refine qa ?_ | refine qb ?_ | refine qc ?_ | refine qd ?_ | refine qe ?_ | refine qf ?_ | refine qg rfl ?_ | refine qh ?_ | refine qi ?_ | refine qj ?_ | refine qk ?_ | refine ql ?_ | refine qm ?_)
                  refine hk_cond rfl (fun hC6 => ?_) (fun hC6 => ?_)
                  · cases hC6
                  · (try simp only [nhs] at hC6)
                    repeat (first | refine qa ?_ | refine qb ?_ | refine qc ?_ | refine qd ?_ | refine qe ?_ | refine qf ?_ | refine qg rfl ?_ | refine qh ?_ | refine qi ?_ | refine qj ?_ | refine qk ?_ | refine ql ?_ | refine qm ?_)
                    refine hk_region fun K hK => runs_eval tab_ok ?_
                    simp only [ev0, evA, evB, evP, fl, gp, tab, simprocAttr, reduceCtorEq, reduceIte]
                    refine fin_run ?_ (hK _ ?_) <;> clear hK <;> clear K
                    · (first | exact trivial | omega | (simp only [In64] at *; omega) | (simp [In64] at *; omega) | (simp_all; done) | skip)
                    repeat (first | refine qa ?_ | refine qb ?_ | refine qc ?_ | refine qd ?_ | refine qe ?_ | refine qf ?_ | refine qg rfl ?_ | refine qh ?_ | refine qi ?_ | refine qj ?_ | refine qk ?_ | refine ql ?_ | refine qm ?_)
                    refine ⟨i + 1, [0, 1, 2, 3, 4], by omega, by omega, ?_⟩
                    simp only [leq, leA, ev0, evA, evB, evP, fl, gp, tab, simprocAttr, reduceCtorEq, reduceIte] <;> first | trivial | omega
              · cases hC4
            · refine hk_region fun K hK => runs_eval tab_ok ?_
              simp only [ev0, evA, evB, evP, fl, gp, tab, simprocAttr, reduceCtorEq, reduceIte, ll_length, hl, decide_eq_false g10a]
              refine fin_run trivial (hK _ ?_) <;> clear hK <;> clear K
              repeat (first | refine qa ?_ | refine qb ?_ | refine qc ?_ | refine qd ?_ | refine qe ?_ | refine qf ?_ | refine qg rfl ?_ | refine qh ?_ | refine qi ?_ | refine qj ?_ | refine qk ?_ | refine ql ?_ | refine qm ?_)
              refine hk_cond rfl (fun hC4 => ?_) (fun hC4 => ?_)
              · cases hC4
              · repeat (first | refine qa ?_ | refine qb ?_ | refine qc ?_ | refine qd ?_ | refine qe ?_ | refine qf ?_ | refine qg rfl ?_ | refine qh ?_ | refine qi ?_ | refine qj ?_ | refine qk ?_ | refine ql ?_ | refine qm ?_)
                refine ⟨rfl, [0, 1, 2, 3, 4], ?_⟩
                simp only [leq, leA, ev0, evA, evB, evP, fl, gp, tab, simprocAttr, reduceCtorEq, reduceIte] <;> first | trivial | omega
          · repeat (first | refine qa ?_ | refine qb ?_ | refine qc ?_ | refine qd ?_ | refine qe ?_ | refine qf ?_ | refine qg rfl ?_ | refine qh ?_ | refine qi ?_ | refine qj ?_ | refine qk ?_ | refine ql ?_ | refine qm ?_)
            refine hk_region fun K hK => runs_eval tab_ok ?_
            simp only [ev0, evA, evB, evP, fl, gp, tab, simprocAttr, reduceCtorEq, reduceIte]
            refine fin_run trivial (hK _ ?_) <;> clear hK <;> clear K
            repeat (first | refine qa ?_ | refine qb ?_ | refine qc ?_ | refine qd ?_ | refine qe ?_ | refine qf ?_ | refine qg rfl ?_ | refine qh ?_ | refine qi ?_ | refine qj ?_ | refine qk ?_ | refine ql ?_ | refine qm ?_)
            refine hk_loop (ι := Nat) (fun a => ⟨215, [(2, .p (.list (ll ls))), (3, .ptr 0 0), (4, .ptr 1 0), (7, .ptr 2 0), (8, .ptr 3 0), (9, .ptr 4 0), (12, .p (.int .i64 a))], [.own [.p (.int .i64 n), .p (.list (il m))], .own [.p (.int .i64 n'), .p (.list (il m'))], .own [.p (.int .i64 (n * n' : Nat)), .p (.list (il (sg n n' m m' ls)))], .own [.p (.int .i64 0), .p (.int .i64 0)], .own [.p (.int .i64 0), .p (.int .i64 0)]]⟩) (fun a => a ≤ n') (fun a => n' - a) 0 (Nat.zero_le _) [0, 1, 2, 3, 4] (by simp only [leq, leA, ev0, evA, evB, evP, fl, gp, tab, simprocAttr, reduceCtorEq, reduceIte] <;> trivial) fun a ha => ?_
            repeat (first | refine qa ?_ | refine qb ?_ | refine qc ?_ | refine qd ?_ | refine qe ?_ | refine qf ?_ | refine qg rfl ?_ | refine qh ?_ | refine qi ?_ | refine qj ?_ | refine qk ?_ | refine ql ?_ | refine qm ?_)
            by_cases g18a : (a : Int) < n'
            · refine hk_region fun K hK => runs_eval tab_ok ?_
              simp only [ev0, evA, evB, evP, fl, gp, tab, simprocAttr, reduceCtorEq, reduceIte, decide_eq_true g18a]
              refine fin_run ?_ (hK _ ?_) <;> clear hK <;> clear K
              · (first | exact trivial | omega | (simp only [In64] at *; omega) | (simp [In64] at *; omega) | (simp_all; done) | skip)
              repeat (first | refine qa ?_ | refine qb ?_ | refine qc ?_ | refine qd ?_ | refine qe ?_ | refine qf ?_ | refine qg rfl ?_ | refine qh ?_ | refine qi ?_ | refine qj ?_ | refine qk ?_ | refine ql ?_ | refine qm ?_)
              refine hk_cond rfl (fun hC7 => ?_) (fun hC7 => ?_)
              · (try simp only [nhs] at hC7)
                repeat (first | refine qa ?_ | refine qb ?_ | refine qc ?_ | refine qd ?_ | refine qe ?_ | refine qf ?_ | refine qg rfl ?_ | refine qh ?_ | refine qi ?_ | refine qj ?_ | refine qk ?_ | refine ql ?_ | refine qm ?_)
                have hal : a < n' := by omega
                refine hk_region fun K hK => runs_eval tab_ok ?_
                simp only [ev0, evA, evB, evP, fl, gp, tab, simprocAttr, reduceCtorEq, reduceIte]
                refine fin_run trivial (hK _ ?_) <;> clear hK <;> clear K
                repeat (first | refine qa ?_ | refine qb ?_ | refine qc ?_ | refine qd ?_ | refine qe ?_ | refine qf ?_ | refine qg rfl ?_ | refine qh ?_ | refine qi ?_ | refine qj ?_ | refine qk ?_ | refine ql ?_ | refine qm ?_)
                refine hk_loop (ι := Nat) (fun b => ⟨215, [(2, .p (.list (ll ls))), (3, .ptr 0 0), (4, .ptr 1 0), (7, .ptr 2 0), (8, .ptr 3 0), (9, .ptr 4 0), (12, .p (.int .i64 a)), (13, .p (.int .i64 b))], [.own [.p (.int .i64 n), .p (.list (il m))], .own [.p (.int .i64 n'), .p (.list (il m'))], .own [.p (.int .i64 (n * n' : Nat)), .p (.list (il (sg n n' m m' ls)))], .own [.p (.int .i64 0), .p (.int .i64 0)], .own [.p (.int .i64 0), .p (.int .i64 0)]]⟩) (fun b => b ≤ n') (fun b => n' - b) 0 (Nat.zero_le _) [0, 1, 2, 3, 4] (by simp only [leq, leA, ev0, evA, evB, evP, fl, gp, tab, simprocAttr, reduceCtorEq, reduceIte] <;> trivial) fun b hb => ?_
                repeat (first | refine qa ?_ | refine qb ?_ | refine qc ?_ | refine qd ?_ | refine qe ?_ | refine qf ?_ | refine qg rfl ?_ | refine qh ?_ | refine qi ?_ | refine qj ?_ | refine qk ?_ | refine ql ?_ | refine qm ?_)
                by_cases g21a : (b : Int) < n'
                · refine hk_region fun K hK => runs_eval tab_ok ?_
                  simp only [ev0, evA, evB, evP, fl, gp, tab, simprocAttr, reduceCtorEq, reduceIte, decide_eq_true g21a]
                  refine fin_run ?_ (hK _ ?_) <;> clear hK <;> clear K
                  · (first | exact trivial | omega | (simp only [In64] at *; omega) | (simp [In64] at *; omega) | (simp_all; done) | skip)
                  repeat (first | refine qa ?_ | refine qb ?_ | refine qc ?_ | refine qd ?_ | refine qe ?_ | refine qf ?_ | refine qg rfl ?_ | refine qh ?_ | refine qi ?_ | refine qj ?_ | refine qk ?_ | refine ql ?_ | refine qm ?_)
                  refine hk_cond rfl (fun hC8 => ?_) (fun hC8 => ?_)
                  · (try simp only [nhs] at hC8)
                    repeat (first | refine qa ?_ | refine qb ?_ | refine qc ?_ | refine qd ?_ | refine qe ?_ | refine qf ?_ | refine qg rfl ?_ | refine qh ?_ | refine qi ?_ | refine qj ?_ | refine qk ?_ | refine ql ?_ | refine qm ?_)
                    have hbl : b < n' := by omega
                    have hab := G'.cl a b hal hbl
                    have r1 := (hrow _ hab).1
                    have r2 := (hrow a hal).1
                    have r3 := (hrow b hbl).1
                    refine hk_draw mixed (by kernel_rfl) fun K hK => runs_eval tab_ok ?_
                    simp only [ev0, evA, evB, evP, fl, gp, tab, simprocAttr, reduceCtorEq, reduceIte, ll_length, ll_get (show op m' n' a b < ls.length by omega), ll_get (show a < ls.length by omega), ll_get (show b < ls.length by omega)]
                    refine fin_stop ?_ (runs_call (m_c T' hal hbl) rfl rfl rfl (by simp only [dstOk, Nat.reduceLT]) (by repeat (first | exact trivial | constructor)) (runs_eval tab_ok ?_))
                    · (first | exact trivial | omega | (simp only [In64] at *; omega) | (simp [In64] at *; omega) | (simp_all; done) | skip)
                    simp only [ev0, evA, evB, evP, fl, gp, tab, simprocAttr, reduceCtorEq, reduceIte, ll_length, ll_get (show op m' n' a b < ls.length by omega), ll_get (show a < ls.length by omega), ll_get (show b < ls.length by omega)]
                    refine fin_stop ?_ (runs_call (thenR_c (ls.getD b []) (ls.getD a []) (fun x hx => by have := hrng b hbl x hx; omega) (by omega) (by omega)) rfl rfl rfl (by simp only [dstOk, Nat.reduceLT]) (by repeat (first | exact trivial | constructor)) (runs_eval tab_ok ?_))
                    · (first | exact trivial | omega | (simp only [In64] at *; omega) | (simp [In64] at *; omega) | (simp_all; done) | skip)
                    simp only [ev0, evA, evB, evP, fl, gp, tab, simprocAttr, reduceCtorEq, reduceIte, ll_length, ll_get (show op m' n' a b < ls.length by omega), ll_get (show a < ls.length by omega), ll_get (show b < ls.length by omega)]
                    refine fin_stop ?_ (runs_call (ints_c (ls.getD (op m' n' a b) []) (cmpl (ls.getD b []) (ls.getD a [])) (by omega)) rfl rfl rfl (by simp only [dstOk, Nat.reduceLT]) (by repeat (first | exact trivial | constructor)) (runs_eval tab_ok ?_))
                    · (first | exact trivial | omega | (simp only [In64] at *; omega) | (simp [In64] at *; omega) | (simp_all; done) | skip)
                    simp only [ev0, evA, evB, evP, fl, gp, tab, simprocAttr, reduceCtorEq, reduceIte, decide_eq_true (hmg a hal b hbl), ll_length, ll_get (show op m' n' a b < ls.length by omega), ll_get (show a < ls.length by omega), ll_get (show b < ls.length by omega)]
                    refine fin_run ?_ (hK _ ?_) <;> clear hK <;> clear K
                    · (first | exact trivial | omega | (simp only [In64] at *; omega) | (simp [In64] at *; omega) | (simp_all; done) | skip)
                    repeat (first | refine qa ?_ | refine qb ?_ | refine qc ?_ | refine qd ?_ | refine qe ?_ | refine qf ?_ | refine qg rfl ?_ | refine qh ?_ | refine qi ?_ | refine qj ?_ | refine qk ?_ | refine ql ?_ | refine qm ?_)
                    refine hk_cond rfl (fun hC9 => ?_) (fun hC9 => ?_)
                    · cases hC9
                    · (try simp only [nhs] at hC9)
                      repeat (first | refine qa ?_ | refine qb ?_ | refine qc ?_ | refine qd ?_ | refine qe ?_ | refine qf ?_ | refine qg rfl ?_ | refine qh ?_ | refine qi ?_ | refine qj ?_ | refine qk ?_ | refine ql ?_ | refine qm ?_)
                      refine hk_region fun K hK => runs_eval tab_ok ?_
                      simp only [ev0, evA, evB, evP, fl, gp, tab, simprocAttr, reduceCtorEq, reduceIte]
                      refine fin_run ?_ (hK _ ?_) <;> clear hK <;> clear K
                      · (first | exact trivial | omega | (simp only [In64] at *; omega) | (simp [In64] at *; omega) | (simp_all; done) | skip)
                      repeat (first | refine qa ?_ | refine qb ?_ | refine qc ?_ | refine qd ?_ | refine qe ?_ | refine qf ?_ | refine qg rfl ?_ | refine qh ?_ | refine qi ?_ | refine qj ?_ | refine qk ?_ | refine ql ?_ | refine qm ?_)
                      refine ⟨b + 1, [0, 1, 2, 3, 4], by omega, by omega, ?_⟩
                      simp only [leq, leA, ev0, evA, evB, evP, fl, gp, tab, simprocAttr, reduceCtorEq, reduceIte] <;> first | trivial | omega
                  · cases hC8
                · refine hk_region fun K hK => runs_eval tab_ok ?_
                  simp only [ev0, evA, evB, evP, fl, gp, tab, simprocAttr, reduceCtorEq, reduceIte, decide_eq_false g21a]
                  refine fin_run ?_ (hK _ ?_) <;> clear hK <;> clear K
                  · (first | exact trivial | omega | (simp only [In64] at *; omega) | (simp [In64] at *; omega) | (simp_all; done) | skip)
                  repeat (first | refine qa ?_ | refine qb ?_ | refine qc ?_ | refine qd ?_ | refine qe ?_ | refine qf ?_ | refine qg rfl ?_ | refine qh ?_ | refine qi ?_ | refine qj ?_ | refine qk ?_ | refine ql ?_ | refine qm ?_)
                  refine hk_cond rfl (fun hC8 => ?_) (fun hC8 => ?_)
                  · cases hC8
                  · repeat (first | refine qa ?_ | refine qb ?_ | refine qc ?_ | refine qd ?_ | refine qe ?_ | refine qf ?_ | refine qg rfl ?_ | refine qh ?_ | refine qi ?_ | refine qj ?_ | refine qk ?_ | refine ql ?_ | refine qm ?_)
                    refine hk_region fun K hK => runs_eval tab_ok ?_
                    simp only [ev0, evA, evB, evP, fl, gp, tab, simprocAttr, reduceCtorEq, reduceIte]
                    refine fin_run ?_ (hK _ ?_) <;> clear hK <;> clear K
                    · (first | exact trivial | omega | (simp only [In64] at *; omega) | (simp [In64] at *; omega) | (simp_all; done) | skip)
                    repeat (first | refine qa ?_ | refine qb ?_ | refine qc ?_ | refine qd ?_ | refine qe ?_ | refine qf ?_ | refine qg rfl ?_ | refine qh ?_ | refine qi ?_ | refine qj ?_ | refine qk ?_ | refine ql ?_ | refine qm ?_)
                    refine ⟨a + 1, [0, 1, 2, 3, 4], by omega, by omega, ?_⟩
                    simp only [leq, leA, ev0, evA, evB, evP, fl, gp, tab, simprocAttr, reduceCtorEq, reduceIte] <;> first | trivial | omega
              · cases hC7
            · refine hk_region fun K hK => runs_eval tab_ok ?_
              simp only [ev0, evA, evB, evP, fl, gp, tab, simprocAttr, reduceCtorEq, reduceIte, decide_eq_false g18a]
              refine fin_run ?_ (hK _ ?_) <;> clear hK <;> clear K
              · (first | exact trivial | omega | (simp only [In64] at *; omega) | (simp [In64] at *; omega) | (simp_all; done) | skip)
              repeat (first | refine qa ?_ | refine qb ?_ | refine qc ?_ | refine qd ?_ | refine qe ?_ | refine qf ?_ | refine qg rfl ?_ | refine qh ?_ | refine qi ?_ | refine qj ?_ | refine qk ?_ | refine ql ?_ | refine qm ?_)
              refine hk_cond rfl (fun hC7 => ?_) (fun hC7 => ?_)
              · cases hC7
              · repeat (first | refine qa ?_ | refine qb ?_ | refine qc ?_ | refine qd ?_ | refine qe ?_ | refine qf ?_ | refine qg rfl ?_ | refine qh ?_ | refine qi ?_ | refine qj ?_ | refine qk ?_ | refine ql ?_ | refine qm ?_)
                refine hk_region fun K hK => runs_eval tab_ok ?_
                simp only [ev0, evA, evB, evP, fl, gp, tab, simprocAttr, reduceCtorEq, reduceIte, hmul]
                refine fin_run ?_ (hK _ ?_) <;> clear hK <;> clear K
                · simp only [In64]; omega
                repeat (first | refine qa ?_ | refine qb ?_ | refine qc ?_ | refine qd ?_ | refine qe ?_ | refine qf ?_ | refine qg rfl ?_ | refine qh ?_ | refine qi ?_ | refine qj ?_ | refine qk ?_ | refine ql ?_ | refine qm ?_)
                refine hk_cond rfl (fun hC10 => ?_) (fun hC10 => ?_)
                · (try simp only [nhs] at hC10)
                  omega
                · (try simp only [nhs] at hC10)
                  repeat (first | refine qa ?_ | refine qb ?_ | refine qc ?_ | refine qd ?_ | refine qe ?_ | refine qf ?_ | refine qg rfl ?_ | refine qh ?_ | refine qi ?_ | refine qj ?_ | refine qk ?_ | refine ql ?_ | refine qm ?_)
                  refine hk_region fun K hK => runs_eval tab_ok ?_
                  simp only [ev0, evA, evB, evP, fl, gp, tab, simprocAttr, reduceCtorEq, reduceIte, bne_self_eq_false]
                  refine fin_run ?_ (hK _ ?_) <;> clear hK <;> clear K
                  · (first | exact trivial | omega | (simp only [In64] at *; omega) | (simp [In64] at *; omega) | (simp_all; done) | skip)
                  repeat (first | refine qa ?_ | refine qb ?_ | refine qc ?_ | refine qd ?_ | refine qe ?_ | refine qf ?_ | refine qg rfl ?_ | refine qh ?_ | refine qi ?_ | refine qj ?_ | refine qk ?_ | refine ql ?_ | refine qm ?_)
                  refine hk_cond rfl (fun hC11 => ?_) (fun hC11 => ?_)
                  · cases hC11
                  · (try simp only [nhs] at hC11)
                    repeat (first | refine qa ?_ | refine qb ?_ | refine qc ?_ | refine qd ?_ | refine qe ?_ | refine qf ?_ | refine qg rfl ?_ | refine qh ?_ | refine qi ?_ | refine qj ?_ | refine qk ?_ | refine ql ?_ | refine qm ?_)
                    refine hk_region fun K hK => runs_eval tab_ok ?_
                    simp only [ev0, evA, evB, evP, fl, gp, tab, simprocAttr, reduceCtorEq, reduceIte]
                    refine fin_run ?_ (hK _ ?_) <;> clear hK <;> clear K
                    · (first | exact trivial | omega | (simp only [In64] at *; omega) | (simp [In64] at *; omega) | (simp_all; done) | skip)
                    repeat (first | refine qa ?_ | refine qb ?_ | refine qc ?_ | refine qd ?_ | refine qe ?_ | refine qf ?_ | refine qg rfl ?_ | refine qh ?_ | refine qi ?_ | refine qj ?_ | refine qk ?_ | refine ql ?_ | refine qm ?_)
                    refine hk_cond rfl (fun hC12 => ?_) (fun hC12 => ?_)
                    · cases hC12
                    · (try simp only [nhs] at hC12)
                      repeat (first | refine qa ?_ | refine qb ?_ | refine qc ?_ | refine qd ?_ | refine qe ?_ | refine qf ?_ | refine qg rfl ?_ | refine qh ?_ | refine qi ?_ | refine qj ?_ | refine qk ?_ | refine ql ?_ | refine qm ?_)
                      have hmul2 : ((n * n' : Nat) : Int) * ((n * n' : Nat) : Int) = ((n * n' * (n * n') : Nat) : Int) := (Int.natCast_mul _ _).symm
                      refine hk_region fun K hK => runs_eval tab_ok ?_
                      simp only [ev0, evA, evB, evP, fl, gp, tab, simprocAttr, reduceCtorEq, reduceIte, hmul, il_length, hslen, hmul2, bne_self_eq_false]
                      refine fin_run ?_ (hK _ ?_) <;> clear hK <;> clear K
                      · simp only [In64]; omega
                      repeat (first | refine qa ?_ | refine qb ?_ | refine qc ?_ | refine qd ?_ | refine qe ?_ | refine qf ?_ | refine qg rfl ?_ | refine qh ?_ | refine qi ?_ | refine qj ?_ | refine qk ?_ | refine ql ?_ | refine qm ?_)
                      refine hk_cond rfl (fun hC13 => ?_) (fun hC13 => ?_)
                      · cases hC13
                      · (try simp only [nhs] at hC13)
                        repeat (first | refine qa ?_ | refine qb ?_ | refine qc ?_ | refine qd ?_ | refine qe ?_ | refine qf ?_ | refine qg rfl ?_ | refine qh ?_ | refine qi ?_ | refine qj ?_ | refine qk ?_ | refine ql ?_ | refine qm ?_)
                        refine hk_region fun K hK => runs_eval tab_ok ?_
                        simp only [ev0, evA, evB, evP, fl, gp, tab, simprocAttr, reduceCtorEq, reduceIte]
                        refine fin_run trivial (hK _ ?_) <;> clear hK <;> clear K
                        repeat (first | refine qa ?_ | refine qb ?_ | refine qc ?_ | refine qd ?_ | refine qe ?_ | refine qf ?_ | refine qg rfl ?_ | refine qh ?_ | refine qi ?_ | refine qj ?_ | refine qk ?_ | refine ql ?_ | refine qm ?_)
                        refine hk_loop (ι := Nat) (fun i => ⟨215, [(2, .p (.list (ll ls))), (3, .ptr 0 0), (4, .ptr 1 0), (7, .ptr 2 0), (14, .p (.int .i64 i))], [.own [.p (.int .i64 n), .p (.list (il m))], .own [.p (.int .i64 n'), .p (.list (il m'))], .own [.p (.int .i64 (n * n' : Nat)), .p (.list (il (sg n n' m m' ls)))]]⟩) (fun i => i ≤ n * n') (fun i => n * n' - i) 0 (Nat.zero_le _) [0, 1, 2] (by simp only [leq, leA, ev0, evA, evB, evP, fl, gp, tab, simprocAttr, reduceCtorEq, reduceIte] <;> trivial) fun i hi => ?_
                        repeat (first | refine qa ?_ | refine qb ?_ | refine qc ?_ | refine qd ?_ | refine qe ?_ | refine qf ?_ | refine qg rfl ?_ | refine qh ?_ | refine qi ?_ | refine qj ?_ | refine qk ?_ | refine ql ?_ | refine qm ?_)
                        refine hk_region fun K hK => runs_eval tab_ok ?_
                        simp only [ev0, evA, evB, evP, fl, gp, tab, simprocAttr, reduceCtorEq, reduceIte]
                        refine fin_run ?_ (hK _ ?_) <;> clear hK <;> clear K
                        · (first | exact trivial | omega | (simp only [In64] at *; omega) | (simp [In64] at *; omega) | (simp_all; done) | skip)
                        repeat (first | refine qa ?_ | refine qb ?_ | refine qc ?_ | refine qd ?_ | refine qe ?_ | refine qf ?_ | refine qg rfl ?_ | refine qh ?_ | refine qi ?_ | refine qj ?_ | refine qk ?_ | refine ql ?_ | refine qm ?_)
                        refine hk_cond rfl (fun hC14 => ?_) (fun hC14 => ?_)
                        · (try simp only [nhs] at hC14)
                          repeat (first | refine qa ?_ | refine qb ?_ | refine qc ?_ | refine qd ?_ | refine qe ?_ | refine qf ?_ | refine qg rfl ?_ | refine qh ?_ | refine qi ?_ | refine qj ?_ | refine qk ?_ | refine ql ?_ | refine qm ?_)
                          have hil : i < n * n' := by omega
                          refine hk_region fun K hK => runs_eval tab_ok ?_
                          simp only [ev0, evA, evB, evP, fl, gp, tab, simprocAttr, reduceCtorEq, reduceIte]
                          refine fin_run trivial (hK _ ?_) <;> clear hK <;> clear K
                          repeat (first | refine qa ?_ | refine qb ?_ | refine qc ?_ | refine qd ?_ | refine qe ?_ | refine qf ?_ | refine qg rfl ?_ | refine qh ?_ | refine qi ?_ | refine qj ?_ | refine qk ?_ | refine ql ?_ | refine qm ?_)
                          refine hk_loop (ι := Nat) (fun k => ⟨215, [(2, .p (.list (ll ls))), (3, .ptr 0 0), (4, .ptr 1 0), (7, .ptr 2 0), (14, .p (.int .i64 i)), (15, .p (.int .i64 k))], [.own [.p (.int .i64 n), .p (.list (il m))], .own [.p (.int .i64 n'), .p (.list (il m'))], .own [.p (.int .i64 (n * n' : Nat)), .p (.list (il (sg n n' m m' ls)))]]⟩) (fun k => k ≤ n * n') (fun k => n * n' - k) 0 (Nat.zero_le _) [0, 1, 2] (by simp only [leq, leA, ev0, evA, evB, evP, fl, gp, tab, simprocAttr, reduceCtorEq, reduceIte] <;> trivial) fun k hk => ?_
                          repeat (first | refine qa ?_ | refine qb ?_ | refine qc ?_ | refine qd ?_ | refine qe ?_ | refine qf ?_ | refine qg rfl ?_ | refine qh ?_ | refine qi ?_ | refine qj ?_ | refine qk ?_ | refine ql ?_ | refine qm ?_)
                          refine hk_region fun K hK => runs_eval tab_ok ?_
                          simp only [ev0, evA, evB, evP, fl, gp, tab, simprocAttr, reduceCtorEq, reduceIte]
                          refine fin_run ?_ (hK _ ?_) <;> clear hK <;> clear K
                          · (first | exact trivial | omega | (simp only [In64] at *; omega) | (simp [In64] at *; omega) | (simp_all; done) | skip)
                          repeat (first | refine qa ?_ | refine qb ?_ | refine qc ?_ | refine qd ?_ | refine qe ?_ | refine qf ?_ | refine qg rfl ?_ | refine qh ?_ | refine qi ?_ | refine qj ?_ | refine qk ?_ | refine ql ?_ | refine qm ?_)
                          refine hk_cond rfl (fun hC15 => ?_) (fun hC15 => ?_)
                          · (try simp only [nhs] at hC15)
                            repeat (first | refine qa ?_ | refine qb ?_ | refine qc ?_ | refine qd ?_ | refine qe ?_ | refine qf ?_ | refine qg rfl ?_ | refine qh ?_ | refine qi ?_ | refine qj ?_ | refine qk ?_ | refine ql ?_ | refine qm ?_)
                            have hkl : k < n * n' := by omega
                            obtain ⟨i1, i2, _⟩ := pr_split G'.pos hil
                            obtain ⟨k1, k2, _⟩ := pr_split G'.pos hkl
                            have hpos := G'.pos
                            have ra := hrow _ i2
                            have va := ra.2 _ k1
                            have la := A.lt _ _ i2 k1
                            have o1 := G.cl _ _ i1 la
                            have o2 := G'.cl _ _ i2 k2
                            have p1 : op m n (i / n') (alp ls (i % n') (k / n')) * n' ≤ 60 * 60 := Nat.mul_le_mul (by omega) hs2
                            have p2 : ((op m n (i / n') (alp ls (i % n') (k / n')) : Nat) : Int) * (n' : Int) = ((op m n (i / n') (alp ls (i % n') (k / n')) * n' : Nat) : Int) := (Int.natCast_mul _ _).symm
                            have p3 : ((op m n (i / n') (alp ls (i % n') (k / n')) * n' : Nat) : Int) + ((op m' n' (i % n') (k % n') : Nat) : Int) = ((smi n' (op m n) (op m' n') (alp ls) i k : Nat) : Int) := rfl
                            have p4 : smi n' (op m n) (op m' n') (alp ls) i k = op m n (i / n') (alp ls (i % n') (k / n')) * n' + op m' n' (i % n') (k % n') := rfl
                            refine hk_draw mixed (by kernel_rfl) fun K hK => runs_eval tab_ok ?_
                            simp only [ev0, evA, evB, evP, fl, gp, tab, simprocAttr, reduceCtorEq, reduceIte, tm_nat, td_nat, ll_length, ll_get (show i % n' < ls.length by omega), il_length, il_get (show k / n' < (ls.getD (i % n') []).length by omega), va, p2, p3]
                            refine fin_stop ?_ (runs_call (m_c hsgt.2.1 hil hkl) rfl rfl rfl (by simp only [dstOk, Nat.reduceLT]) (by repeat (first | exact trivial | constructor)) (runs_eval tab_ok ?_))
                            · (first | exact trivial | omega | (simp only [In64] at *; omega) | (simp [In64] at *; omega) | (simp_all; done) | skip)
                            simp only [ev0, evA, evB, evP, fl, gp, tab, simprocAttr, reduceCtorEq, reduceIte, hsop i k hil hkl, tm_nat, td_nat, ll_length, ll_get (show i % n' < ls.length by omega), il_length, il_get (show k / n' < (ls.getD (i % n') []).length by omega), va, p2, p3]
                            refine fin_stop ?_ (runs_call (m_c T i1 la) rfl rfl rfl (by simp only [dstOk, Nat.reduceLT]) (by repeat (first | exact trivial | constructor)) (runs_eval tab_ok ?_))
                            · generalize i / n' = s at *; generalize k / n' = t at *; generalize i % n' = u at *; generalize k % n' = v at *; simp only [In64]; omega
                            simp only [ev0, evA, evB, evP, fl, gp, tab, simprocAttr, reduceCtorEq, reduceIte, tm_nat, td_nat, ll_length, ll_get (show i % n' < ls.length by omega), il_length, il_get (show k / n' < (ls.getD (i % n') []).length by omega), va, p2, p3]
                            refine fin_stop ?_ (runs_call (m_c T' i2 k2) rfl rfl rfl (by simp only [dstOk, Nat.reduceLT]) (by repeat (first | exact trivial | constructor)) (runs_eval tab_ok ?_))
                            · generalize i / n' = s at *; generalize k / n' = t at *; generalize i % n' = u at *; generalize k % n' = v at *; simp only [In64]; omega
                            simp only [ev0, evA, evB, evP, fl, gp, tab, simprocAttr, reduceCtorEq, reduceIte, tm_nat, td_nat, ll_length, ll_get (show i % n' < ls.length by omega), il_length, il_get (show k / n' < (ls.getD (i % n') []).length by omega), va, p2, p3]
                            refine fin_run ?_ (hK _ ?_) <;> clear hK <;> clear K
                            · generalize i / n' = s at *; generalize k / n' = t at *; generalize i % n' = u at *; generalize k % n' = v at *; simp only [In64]; omega
                            repeat (first | refine qa ?_ | refine qb ?_ | refine qc ?_ | refine qd ?_ | refine qe ?_ | refine qf ?_ | refine qg rfl ?_ | refine qh ?_ | refine qi ?_ | refine qj ?_ | refine qk ?_ | refine ql ?_ | refine qm ?_)
                            refine hk_cond rfl (fun hC16 => ?_) (fun hC16 => ?_)
                            · cases hC16
                            · (try simp only [nhs] at hC16)
                              repeat (first | refine qa ?_ | refine qb ?_ | refine qc ?_ | refine qd ?_ | refine qe ?_ | refine qf ?_ | refine qg rfl ?_ | refine qh ?_ | refine qi ?_ | refine qj ?_ | refine qk ?_ | refine ql ?_ | refine qm ?_)
                              refine hk_region fun K hK => runs_eval tab_ok ?_
                              simp only [ev0, evA, evB, evP, fl, gp, tab, simprocAttr, reduceCtorEq, reduceIte]
                              refine fin_run ?_ (hK _ ?_) <;> clear hK <;> clear K
                              · (first | exact trivial | omega | (simp only [In64] at *; omega) | (simp [In64] at *; omega) | (simp_all; done) | skip)
                              repeat (first | refine qa ?_ | refine qb ?_ | refine qc ?_ | refine qd ?_ | refine qe ?_ | refine qf ?_ | refine qg rfl ?_ | refine qh ?_ | refine qi ?_ | refine qj ?_ | refine qk ?_ | refine ql ?_ | refine qm ?_)
                              refine ⟨k + 1, [0, 1, 2], by omega, by omega, ?_⟩
                              simp only [leq, leA, ev0, evA, evB, evP, fl, gp, tab, simprocAttr, reduceCtorEq, reduceIte] <;> first | trivial | omega
                          · (try simp only [nhs] at hC15)
                            repeat (first | refine qa ?_ | refine qb ?_ | refine qc ?_ | refine qd ?_ | refine qe ?_ | refine qf ?_ | refine qg rfl ?_ | refine qh ?_ | refine qi ?_ | refine qj ?_ | refine qk ?_ | refine ql ?_ | refine qm ?_)
                            refine hk_region fun K hK => runs_eval tab_ok ?_
                            simp only [ev0, evA, evB, evP, fl, gp, tab, simprocAttr, reduceCtorEq, reduceIte]
                            refine fin_run ?_ (hK _ ?_) <;> clear hK <;> clear K
                            · (first | exact trivial | omega | (simp only [In64] at *; omega) | (simp [In64] at *; omega) | (simp_all; done) | skip)
                            repeat (first | refine qa ?_ | refine qb ?_ | refine qc ?_ | refine qd ?_ | refine qe ?_ | refine qf ?_ | refine qg rfl ?_ | refine qh ?_ | refine qi ?_ | refine qj ?_ | refine qk ?_ | refine ql ?_ | refine qm ?_)
                            refine ⟨i + 1, [0, 1, 2], by omega, by omega, ?_⟩
                            simp only [leq, leA, ev0, evA, evB, evP, fl, gp, tab, simprocAttr, reduceCtorEq, reduceIte] <;> first | trivial | omega
                        · (try simp only [nhs] at hC14)
                          repeat (first | refine qa ?_ | refine qb ?_ | refine qc ?_ | refine qd ?_ | refine qe ?_ | refine qf ?_ | refine qg rfl ?_ | refine qh ?_ | refine qi ?_ | refine qj ?_ | refine qk ?_ | refine ql ?_ | refine qm ?_)
                          refine hk_region fun K hK => runs_eval tab_ok ?_
                          simp only [ev0, evA, evB, evP, fl, gp, tab, simprocAttr, reduceCtorEq, reduceIte]
                          refine fin_stop trivial (runs_call (gf_c (n * n' : Nat) (sg n n' m m' ls) (by omega)) rfl rfl rfl (by simp only [dstOk, Nat.reduceLT]) (by repeat (first | exact trivial | constructor)) (runs_eval tab_ok ?_))
                          simp only [ev0, evA, evB, evP, fl, gp, tab, simprocAttr, reduceCtorEq, reduceIte, gf_of hsgt]
                          refine fin_run ?_ (hK _ ?_) <;> clear hK <;> clear K
                          · (first | exact trivial | omega | (simp only [In64] at *; omega) | (simp [In64] at *; omega) | (simp_all; done) | skip)
                          repeat (first | refine qa ?_ | refine qb ?_ | refine qc ?_ | refine qd ?_ | refine qe ?_ | refine qf ?_ | refine qg rfl ?_ | refine qh ?_ | refine qi ?_ | refine qj ?_ | refine qk ?_ | refine ql ?_ | refine qm ?_)
                          simp only [Try.results3, enA, ev0, evA, evB, evP, fl, gp, tab, simprocAttr, reduceCtorEq, reduceIte]
                          all_goals (rfl)
      · have hsem := semi_no N m N' m' ls (by omega) (by omega) (by rw [hps]; exact hw)
        rw [hps] at hsem
        refine hk_draw2 mixed fun K hK => runs2_eval tab_ok ?_
        simp only [evD, ev0, evA, evB, evP, fl, gp, tab, simprocAttr, reduceCtorEq, reduceIte]
        refine fin2_stop trivial (runs2_call (ownGroup_c N m hm) rfl rfl rfl rfl (by simp only [dstOk, Nat.reduceLT]) (by repeat (first | exact trivial | constructor)) (runs2_eval tab_ok ?_))
        simp only [evD, ev0, evA, evB, evP, fl, gp, tab, simprocAttr, reduceCtorEq, reduceIte]
        refine fin2_stop trivial (runs2_call (ownGroup_c N' m' hm') rfl rfl rfl rfl (by simp only [dstOk, Nat.reduceLT]) (by repeat (first | exact trivial | constructor)) (runs2_eval tab_ok ?_))
        simp only [evD, ev0, evA, evB, evP, fl, gp, tab, simprocAttr, reduceCtorEq, reduceIte]
        refine fin2_stop trivial (runs2_call (ownLists_c ls (by omega) hrows) rfl rfl rfl rfl (by simp only [dstOk, Nat.reduceLT]) (by repeat (first | exact trivial | constructor)) (runs2_eval tab_ok ?_))
        simp only [evD, ev0, evA, evB, evP, fl, gp, tab, simprocAttr, reduceCtorEq, reduceIte]
        refine fin2_stop trivial (runs2_call (hsem) rfl rfl rfl rfl (by simp only [dstOk, Nat.reduceLT]) (by repeat (first | exact trivial | constructor)) (runs2_eval tab_ok ?_))
        simp only [evD, ev0, evA, evB, evP, fl, gp, tab, simprocAttr, reduceCtorEq, reduceIte]
        refine fin2_run ?_ (hK _ _ (by first | kernel_rfl | rfl) ?_) <;> clear hK <;> clear K
        · (first | exact trivial | omega | (simp only [In64] at *; omega) | (simp [In64] at *; omega) | (simp_all; done) | skip)
        repeat (first | refine qa ?_ | refine qb ?_ | refine qc ?_ | refine qd ?_ | refine qe ?_ | refine qf ?_ | refine qg rfl ?_ | refine qh ?_ | refine qi ?_ | refine qj ?_ | refine qk ?_ | refine ql ?_ | refine qm ?_)
        refine hk_region fun K hK => runs_eval tab_ok ?_
        simp only [ev0, evA, evB, evP, fl, gp, tab, simprocAttr, reduceCtorEq, reduceIte]
        refine fin_stop trivial (runs_call (twoGroups_c N m N' m' (by omega) (by omega)) rfl rfl rfl (by simp only [dstOk, Nat.reduceLT]) (by repeat (first | exact trivial | constructor)) (runs_eval tab_ok ?_))
        simp only [ev0, evA, evB, evP, fl, gp, tab, simprocAttr, reduceCtorEq, reduceIte, ht]
        refine fin_run ?_ (hK _ ?_) <;> clear hK <;> clear K
        · (first | exact trivial | omega | (simp only [In64] at *; omega) | (simp [In64] at *; omega) | (simp_all; done) | skip)
        repeat (first | refine qa ?_ | refine qb ?_ | refine qc ?_ | refine qd ?_ | refine qe ?_ | refine qf ?_ | refine qg rfl ?_ | refine qh ?_ | refine qi ?_ | refine qj ?_ | refine qk ?_ | refine ql ?_ | refine qm ?_)
        refine hk_region fun K hK => runs_eval tab_ok ?_
        simp only [ev0, evA, evB, evP, fl, gp, tab, simprocAttr, reduceCtorEq, reduceIte, decide_eq_false hw]
        refine fin_run ?_ (hK _ ?_) <;> clear hK <;> clear K
        · (first | exact trivial | omega | (simp only [In64] at *; omega) | (simp [In64] at *; omega) | (simp_all; done) | skip)
        repeat (first | refine qa ?_ | refine qb ?_ | refine qc ?_ | refine qd ?_ | refine qe ?_ | refine qf ?_ | refine qg rfl ?_ | refine qh ?_ | refine qi ?_ | refine qj ?_ | refine qk ?_ | refine ql ?_ | refine qm ?_)
        refine hk_cond rfl (fun hC3 => ?_) (fun hC3 => ?_)
        · cases hC3
        · repeat (first | refine qa ?_ | refine qb ?_ | refine qc ?_ | refine qd ?_ | refine qe ?_ | refine qf ?_ | refine qg rfl ?_ | refine qh ?_ | refine qi ?_ | refine qj ?_ | refine qk ?_ | refine ql ?_ | refine qm ?_)
          refine hk_region fun K hK => runs_eval tab_ok ?_
          simp only [ev0, evA, evB, evP, fl, gp, tab, simprocAttr, reduceCtorEq, reduceIte]
          refine fin_run trivial (hK _ ?_) <;> clear hK <;> clear K
          repeat (first | refine qa ?_ | refine qb ?_ | refine qc ?_ | refine qd ?_ | refine qe ?_ | refine qf ?_ | refine qg rfl ?_ | refine qh ?_ | refine qi ?_ | refine qj ?_ | refine qk ?_ | refine ql ?_ | refine qm ?_)
          refine hk_cutB (⟨215, [(2, .p (.list (ll ls))), (3, .ptr 0 0), (4, .ptr 1 0), (7, .ptr 2 0), (8, .ptr 3 0), (9, .ptr 4 0)], [.own [.p (.int .i64 N), .p (.list (il m))], .own [.p (.int .i64 N'), .p (.list (il m'))], .own [.p (.int .i64 0), .p (.list (il []))], .own [.p (.int .i64 w.1), .p (.int .i64 w.2)], .own [.p (.int .i64 w.1), .p (.int .i64 w.2)]]⟩) ?_ ?_
          · repeat (first | refine qa ?_ | refine qb ?_ | refine qc ?_ | refine qd ?_ | refine qe ?_ | refine qf ?_ | refine qg rfl ?_ | refine qh ?_ | refine qi ?_ | refine qj ?_ | refine qk ?_ | refine ql ?_ | refine qm ?_)
            refine hk_loop (ι := Nat) (fun i => ⟨215, [(2, .p (.list (ll ls))), (3, .ptr 0 0), (4, .ptr 1 0), (7, .ptr 2 0), (8, .ptr 3 0), (9, .ptr 4 0), (10, .p (.int .i64 0))], [.own [.p (.int .i64 N), .p (.list (il m))], .own [.p (.int .i64 N'), .p (.list (il m'))], .own [.p (.int .i64 0), .p (.list (il []))], .own [.p (.int .i64 w.1), .p (.int .i64 w.2)], .own [.p (.int .i64 w.1), .p (.int .i64 w.2)]]⟩) (fun i => i = 0) (fun i => 0) 0 rfl [0, 1, 2, 3, 4] (by simp only [leq, leA, ev0, evA, evB, evP, fl, gp, tab, simprocAttr, reduceCtorEq, reduceIte] <;> trivial) fun i hi => ?_
            repeat (first | refine qa ?_ | refine qb ?_ | refine qc ?_ | refine qd ?_ | refine qe ?_ | refine qf ?_ | refine qg rfl ?_ | refine qh ?_ | refine qi ?_ | refine qj ?_ | refine qk ?_ | refine ql ?_ | refine qm ?_)
            by_cases g10a : (0 : Int) < ls.length
            · refine hk_region fun K hK => runs_eval tab_ok ?_
              simp only [ev0, evA, evB, evP, fl, gp, tab, simprocAttr, reduceCtorEq, reduceIte, ll_length, decide_eq_false hw, decide_eq_true g10a]
              refine fin_run ?_ (hK _ ?_) <;> clear hK <;> clear K
              · (first | exact trivial | omega | (simp only [In64] at *; omega) | (simp [In64] at *; omega) | (simp_all; done) | skip)
              repeat (first | refine qa ?_ | refine qb ?_ | refine qc ?_ | refine qd ?_ | refine qe ?_ | refine qf ?_ | refine qg rfl ?_ | refine qh ?_ | refine qi ?_ | refine qj ?_ | refine qk ?_ | refine ql ?_ | refine qm ?_)
              refine hk_cond rfl (fun hC4 => ?_) (fun hC4 => ?_)
              · cases hC4
              · (try simp only [nhs] at hC4)
                repeat (first | refine qa ?_ | refine qb ?_ | refine qc ?_ | refine qd ?_ | refine qe ?_ | refine qf ?_ | refine qg rfl ?_ | refine qh ?_ | refine qi ?_ | refine qj ?_ | refine qk ?_ | refine ql ?_ | refine qm ?_)
                refine ⟨rfl, [0, 1, 2, 3, 4], ?_⟩
                simp only [leq, leA, ev0, evA, evB, evP, fl, gp, tab, simprocAttr, reduceCtorEq, reduceIte] <;> first | trivial | omega
            · refine hk_region fun K hK => runs_eval tab_ok ?_
              simp only [ev0, evA, evB, evP, fl, gp, tab, simprocAttr, reduceCtorEq, reduceIte, ll_length, decide_eq_false hw, decide_eq_false g10a]
              refine fin_run trivial (hK _ ?_) <;> clear hK <;> clear K
              repeat (first | refine qa ?_ | refine qb ?_ | refine qc ?_ | refine qd ?_ | refine qe ?_ | refine qf ?_ | refine qg rfl ?_ | refine qh ?_ | refine qi ?_ | refine qj ?_ | refine qk ?_ | refine ql ?_ | refine qm ?_)
              refine hk_cond rfl (fun hC4 => ?_) (fun hC4 => ?_)
              · cases hC4
              · repeat (first | refine qa ?_ | refine qb ?_ | refine qc ?_ | refine qd ?_ | refine qe ?_ | refine qf ?_ | refine qg rfl ?_ | refine qh ?_ | refine qi ?_ | refine qj ?_ | refine qk ?_ | refine ql ?_ | refine qm ?_)
                refine ⟨rfl, [0, 1, 2, 3, 4], ?_⟩
                simp only [leq, leA, ev0, evA, evB, evP, fl, gp, tab, simprocAttr, reduceCtorEq, reduceIte] <;> first | trivial | omega
          · repeat (first | refine qa ?_ | refine qb ?_ | refine qc ?_ | refine qd ?_ | refine qe ?_ | refine qf ?_ | refine qg rfl ?_ | refine qh ?_ | refine qi ?_ | refine qj ?_ | refine qk ?_ | refine ql ?_ | refine qm ?_)
            refine hk_region fun K hK => runs_eval tab_ok ?_
            simp only [ev0, evA, evB, evP, fl, gp, tab, simprocAttr, reduceCtorEq, reduceIte]
            refine fin_run trivial (hK _ ?_) <;> clear hK <;> clear K
            repeat (first | refine qa ?_ | refine qb ?_ | refine qc ?_ | refine qd ?_ | refine qe ?_ | refine qf ?_ | refine qg rfl ?_ | refine qh ?_ | refine qi ?_ | refine qj ?_ | refine qk ?_ | refine ql ?_ | refine qm ?_)
            refine hk_cutB (⟨215, [(2, .p (.list (ll ls))), (3, .ptr 0 0), (4, .ptr 1 0), (7, .ptr 2 0), (8, .ptr 3 0), (9, .ptr 4 0)], [.own [.p (.int .i64 N), .p (.list (il m))], .own [.p (.int .i64 N'), .p (.list (il m'))], .own [.p (.int .i64 0), .p (.list (il []))], .own [.p (.int .i64 w.1), .p (.int .i64 w.2)], .own [.p (.int .i64 w.1), .p (.int .i64 w.2)]]⟩) ?_ ?_
            · repeat (first | refine qa ?_ | refine qb ?_ | refine qc ?_ | refine qd ?_ | refine qe ?_ | refine qf ?_ | refine qg rfl ?_ | refine qh ?_ | refine qi ?_ | refine qj ?_ | refine qk ?_ | refine ql ?_ | refine qm ?_)
              refine hk_loop (ι := Nat) (fun a => ⟨215, [(2, .p (.list (ll ls))), (3, .ptr 0 0), (4, .ptr 1 0), (7, .ptr 2 0), (8, .ptr 3 0), (9, .ptr 4 0), (12, .p (.int .i64 0))], [.own [.p (.int .i64 N), .p (.list (il m))], .own [.p (.int .i64 N'), .p (.list (il m'))], .own [.p (.int .i64 0), .p (.list (il []))], .own [.p (.int .i64 w.1), .p (.int .i64 w.2)], .own [.p (.int .i64 w.1), .p (.int .i64 w.2)]]⟩) (fun a => a = 0) (fun a => 0) 0 rfl [0, 1, 2, 3, 4] (by simp only [leq, leA, ev0, evA, evB, evP, fl, gp, tab, simprocAttr, reduceCtorEq, reduceIte] <;> trivial) fun a ha => ?_
              repeat (first | refine qa ?_ | refine qb ?_ | refine qc ?_ | refine qd ?_ | refine qe ?_ | refine qf ?_ | refine qg rfl ?_ | refine qh ?_ | refine qi ?_ | refine qj ?_ | refine qk ?_ | refine ql ?_ | refine qm ?_)
              by_cases g18a : (0 : Int) < N'
              · refine hk_region fun K hK => runs_eval tab_ok ?_
                simp only [ev0, evA, evB, evP, fl, gp, tab, simprocAttr, reduceCtorEq, reduceIte, decide_eq_false hw, decide_eq_true g18a]
                refine fin_run ?_ (hK _ ?_) <;> clear hK <;> clear K
                · (first | exact trivial | omega | (simp only [In64] at *; omega) | (simp [In64] at *; omega) | (simp_all; done) | skip)
                repeat (first | refine qa ?_ | refine qb ?_ | refine qc ?_ | refine qd ?_ | refine qe ?_ | refine qf ?_ | refine qg rfl ?_ | refine qh ?_ | refine qi ?_ | refine qj ?_ | refine qk ?_ | refine ql ?_ | refine qm ?_)
                refine hk_cond rfl (fun hC7 => ?_) (fun hC7 => ?_)
                · cases hC7
                · (try simp only [nhs] at hC7)
                  repeat (first | refine qa ?_ | refine qb ?_ | refine qc ?_ | refine qd ?_ | refine qe ?_ | refine qf ?_ | refine qg rfl ?_ | refine qh ?_ | refine qi ?_ | refine qj ?_ | refine qk ?_ | refine ql ?_ | refine qm ?_)
                  refine ⟨rfl, [0, 1, 2, 3, 4], ?_⟩
                  simp only [leq, leA, ev0, evA, evB, evP, fl, gp, tab, simprocAttr, reduceCtorEq, reduceIte] <;> first | trivial | omega
              · refine hk_region fun K hK => runs_eval tab_ok ?_
                simp only [ev0, evA, evB, evP, fl, gp, tab, simprocAttr, reduceCtorEq, reduceIte, decide_eq_false hw, decide_eq_false g18a]
                refine fin_run ?_ (hK _ ?_) <;> clear hK <;> clear K
                · (first | exact trivial | omega | (simp only [In64] at *; omega) | (simp [In64] at *; omega) | (simp_all; done) | skip)
                repeat (first | refine qa ?_ | refine qb ?_ | refine qc ?_ | refine qd ?_ | refine qe ?_ | refine qf ?_ | refine qg rfl ?_ | refine qh ?_ | refine qi ?_ | refine qj ?_ | refine qk ?_ | refine ql ?_ | refine qm ?_)
                refine hk_cond rfl (fun hC7 => ?_) (fun hC7 => ?_)
                · cases hC7
                · repeat (first | refine qa ?_ | refine qb ?_ | refine qc ?_ | refine qd ?_ | refine qe ?_ | refine qf ?_ | refine qg rfl ?_ | refine qh ?_ | refine qi ?_ | refine qj ?_ | refine qk ?_ | refine ql ?_ | refine qm ?_)
                  refine ⟨rfl, [0, 1, 2, 3, 4], ?_⟩
                  simp only [leq, leA, ev0, evA, evB, evP, fl, gp, tab, simprocAttr, reduceCtorEq, reduceIte] <;> first | trivial | omega
            · repeat (first | refine qa ?_ | refine qb ?_ | refine qc ?_ | refine qd ?_ | refine qe ?_ | refine qf ?_ | refine qg rfl ?_ | refine qh ?_ | refine qi ?_ | refine qj ?_ | refine qk ?_ | refine ql ?_ | refine qm ?_)
              refine hk_region fun K hK => runs_eval tab_ok ?_
              simp only [ev0, evA, evB, evP, fl, gp, tab, simprocAttr, reduceCtorEq, reduceIte, decide_eq_false hw]
              refine fin_run ?_ (hK _ ?_) <;> clear hK <;> clear K
              · (first | exact trivial | omega | (simp only [In64] at *; omega) | (simp [In64] at *; omega) | (simp_all; done) | skip)
              repeat (first | refine qa ?_ | refine qb ?_ | refine qc ?_ | refine qd ?_ | refine qe ?_ | refine qf ?_ | refine qg rfl ?_ | refine qh ?_ | refine qi ?_ | refine qj ?_ | refine qk ?_ | refine ql ?_ | refine qm ?_)
              refine hk_cond rfl (fun hC10 => ?_) (fun hC10 => ?_)
              · cases hC10
              · repeat (first | refine qa ?_ | refine qb ?_ | refine qc ?_ | refine qd ?_ | refine qe ?_ | refine qf ?_ | refine qg rfl ?_ | refine qh ?_ | refine qi ?_ | refine qj ?_ | refine qk ?_ | refine ql ?_ | refine qm ?_)
                refine hk_region fun K hK => runs_eval tab_ok ?_
                simp only [ev0, evA, evB, evP, fl, gp, tab, simprocAttr, reduceCtorEq, reduceIte, bne_self_eq_false]
                refine fin_run ?_ (hK _ ?_) <;> clear hK <;> clear K
                · (first | exact trivial | omega | (simp only [In64] at *; omega) | (simp [In64] at *; omega) | (simp_all; done) | skip)
                repeat (first | refine qa ?_ | refine qb ?_ | refine qc ?_ | refine qd ?_ | refine qe ?_ | refine qf ?_ | refine qg rfl ?_ | refine qh ?_ | refine qi ?_ | refine qj ?_ | refine qk ?_ | refine ql ?_ | refine qm ?_)
                refine hk_cond rfl (fun hC11 => ?_) (fun hC11 => ?_)
                · cases hC11
                · (try simp only [nhs] at hC11)
                  repeat (first | refine qa ?_ | refine qb ?_ | refine qc ?_ | refine qd ?_ | refine qe ?_ | refine qf ?_ | refine qg rfl ?_ | refine qh ?_ | refine qi ?_ | refine qj ?_ | refine qk ?_ | refine ql ?_ | refine qm ?_)
                  refine hk_region fun K hK => runs_eval tab_ok ?_
                  simp only [ev0, evA, evB, evP, fl, gp, tab, simprocAttr, reduceCtorEq, reduceIte, decide_eq_false hw]
                  refine fin_run ?_ (hK _ ?_) <;> clear hK <;> clear K
                  · (first | exact trivial | omega | (simp only [In64] at *; omega) | (simp [In64] at *; omega) | (simp_all; done) | skip)
                  repeat (first | refine qa ?_ | refine qb ?_ | refine qc ?_ | refine qd ?_ | refine qe ?_ | refine qf ?_ | refine qg rfl ?_ | refine qh ?_ | refine qi ?_ | refine qj ?_ | refine qk ?_ | refine ql ?_ | refine qm ?_)
                  refine hk_cond rfl (fun hC12 => ?_) (fun hC12 => ?_)
                  · (try simp only [nhs] at hC12)
                    repeat (first | refine qa ?_ | refine qb ?_ | refine qc ?_ | refine qd ?_ | refine qe ?_ | refine qf ?_ | refine qg rfl ?_ | refine qh ?_ | refine qi ?_ | refine qj ?_ | refine qk ?_ | refine ql ?_ | refine qm ?_)
                    refine hk_region fun K hK => runs_eval tab_ok ?_
                    simp only [ev0, evA, evB, evP, fl, gp, tab, simprocAttr, reduceCtorEq, reduceIte]
                    refine fin_stop trivial (runs_call (noGroup_c 0 []) rfl rfl rfl (by simp only [dstOk, Nat.reduceLT]) (by repeat (first | exact trivial | constructor)) (runs_eval tab_ok ?_))
                    simp only [ev0, evA, evB, evP, fl, gp, tab, simprocAttr, reduceCtorEq, reduceIte]
                    refine fin_run ?_ (hK _ ?_) <;> clear hK <;> clear K
                    · (first | exact trivial | omega | (simp only [In64] at *; omega) | (simp [In64] at *; omega) | (simp_all; done) | skip)
                    repeat (first | refine qa ?_ | refine qb ?_ | refine qc ?_ | refine qd ?_ | refine qe ?_ | refine qf ?_ | refine qg rfl ?_ | refine qh ?_ | refine qi ?_ | refine qj ?_ | refine qk ?_ | refine ql ?_ | refine qm ?_)
                    simp only [Try.results3, enA, ev0, evA, evB, evP, fl, gp, tab, simprocAttr, reduceCtorEq, reduceIte]
                    all_goals (rfl)
                  · cases hC12
      · have hsem := semi_no N m N' m' ls (by omega) (by omega) (by rw [hps]; simp)
        rw [hps] at hsem
        refine hk_draw2 mixed fun K hK => runs2_eval tab_ok ?_
        simp only [evD, ev0, evA, evB, evP, fl, gp, tab, simprocAttr, reduceCtorEq, reduceIte]
        refine fin2_stop trivial (runs2_call (ownGroup_c N m hm) rfl rfl rfl rfl (by simp only [dstOk, Nat.reduceLT]) (by repeat (first | exact trivial | constructor)) (runs2_eval tab_ok ?_))
        simp only [evD, ev0, evA, evB, evP, fl, gp, tab, simprocAttr, reduceCtorEq, reduceIte]
        refine fin2_stop trivial (runs2_call (ownGroup_c N' m' hm') rfl rfl rfl rfl (by simp only [dstOk, Nat.reduceLT]) (by repeat (first | exact trivial | constructor)) (runs2_eval tab_ok ?_))
        simp only [evD, ev0, evA, evB, evP, fl, gp, tab, simprocAttr, reduceCtorEq, reduceIte]
        refine fin2_stop trivial (runs2_call (ownLists_c ls (by omega) hrows) rfl rfl rfl rfl (by simp only [dstOk, Nat.reduceLT]) (by repeat (first | exact trivial | constructor)) (runs2_eval tab_ok ?_))
        simp only [evD, ev0, evA, evB, evP, fl, gp, tab, simprocAttr, reduceCtorEq, reduceIte]
        refine fin2_stop trivial (runs2_call (hsem) rfl rfl rfl rfl (by simp only [dstOk, Nat.reduceLT]) (by repeat (first | exact trivial | constructor)) (runs2_eval tab_ok ?_))
        simp only [evD, ev0, evA, evB, evP, fl, gp, tab, simprocAttr, reduceCtorEq, reduceIte]
        refine fin2_run ?_ (hK _ _ (by first | kernel_rfl | rfl) ?_) <;> clear hK <;> clear K
        · (first | exact trivial | omega | (simp only [In64] at *; omega) | (simp [In64] at *; omega) | (simp_all; done) | skip)
        repeat (first | refine qa ?_ | refine qb ?_ | refine qc ?_ | refine qd ?_ | refine qe ?_ | refine qf ?_ | refine qg rfl ?_ | refine qh ?_ | refine qi ?_ | refine qj ?_ | refine qk ?_ | refine ql ?_ | refine qm ?_)
        refine hk_region fun K hK => runs_eval tab_ok ?_
        simp only [ev0, evA, evB, evP, fl, gp, tab, simprocAttr, reduceCtorEq, reduceIte]
        refine fin_stop trivial (runs_call (twoGroups_c N m N' m' (by omega) (by omega)) rfl rfl rfl (by simp only [dstOk, Nat.reduceLT]) (by repeat (first | exact trivial | constructor)) (runs_eval tab_ok ?_))
        simp only [ev0, evA, evB, evP, fl, gp, tab, simprocAttr, reduceCtorEq, reduceIte, ht]
        refine fin_run ?_ (hK _ ?_) <;> clear hK <;> clear K
        · (first | exact trivial | omega | (simp only [In64] at *; omega) | (simp [In64] at *; omega) | (simp_all; done) | skip)
        repeat (first | refine qa ?_ | refine qb ?_ | refine qc ?_ | refine qd ?_ | refine qe ?_ | refine qf ?_ | refine qg rfl ?_ | refine qh ?_ | refine qi ?_ | refine qj ?_ | refine qk ?_ | refine ql ?_ | refine qm ?_)
        refine hk_region fun K hK => runs_eval tab_ok ?_
        simp only [ev0, evA, evB, evP, fl, gp, tab, simprocAttr, reduceCtorEq, reduceIte, ll_length]
        refine fin_run ?_ (hK _ ?_) <;> clear hK <;> clear K
        · (first | exact trivial | omega | (simp only [In64] at *; omega) | (simp [In64] at *; omega) | (simp_all; done) | skip)
        repeat (first | refine qa ?_ | refine qb ?_ | refine qc ?_ | refine qd ?_ | refine qe ?_ | refine qf ?_ | refine qg rfl ?_ | refine qh ?_ | refine qi ?_ | refine qj ?_ | refine qk ?_ | refine ql ?_ | refine qm ?_)
        refine hk_cond rfl (fun hC3 => ?_) (fun hC3 => ?_)
        · (try simp only [nhs] at hC3)
          repeat (first | refine qa ?_ | refine qb ?_ | refine qc ?_ | refine qd ?_ | refine qe ?_ | refine qf ?_ | refine qg rfl ?_ | refine qh ?_ | refine qi ?_ | refine qj ?_ | refine qk ?_ | refine ql ?_ | refine qm ?_)
          refine hk_region fun K hK => runs_eval tab_ok ?_
          simp only [ev0, evA, evB, evP, fl, gp, tab, simprocAttr, reduceCtorEq, reduceIte]
          refine fin_stop trivial (runs_call (f_c 8 0) rfl rfl rfl (by simp only [dstOk, Nat.reduceLT]) (by repeat (first | exact trivial | constructor)) (runs_eval tab_ok ?_))
          simp only [ev0, evA, evB, evP, fl, gp, tab, simprocAttr, reduceCtorEq, reduceIte]
          refine fin_run ?_ (hK _ ?_) <;> clear hK <;> clear K
          · (first | exact trivial | omega | (simp only [In64] at *; omega) | (simp [In64] at *; omega) | (simp_all; done) | skip)
          repeat (first | refine qa ?_ | refine qb ?_ | refine qc ?_ | refine qd ?_ | refine qe ?_ | refine qf ?_ | refine qg rfl ?_ | refine qh ?_ | refine qi ?_ | refine qj ?_ | refine qk ?_ | refine ql ?_ | refine qm ?_)
          refine hk_region fun K hK => runs_eval tab_ok ?_
          simp only [ev0, evA, evB, evP, fl, gp, tab, simprocAttr, reduceCtorEq, reduceIte]
          refine fin_run trivial (hK _ ?_) <;> clear hK <;> clear K
          repeat (first | refine qa ?_ | refine qb ?_ | refine qc ?_ | refine qd ?_ | refine qe ?_ | refine qf ?_ | refine qg rfl ?_ | refine qh ?_ | refine qi ?_ | refine qj ?_ | refine qk ?_ | refine ql ?_ | refine qm ?_)
          refine hk_cutB (⟨215, [(2, .p (.list (ll ls))), (3, .ptr 0 0), (4, .ptr 1 0), (7, .ptr 2 0), (8, .ptr 3 0), (9, .ptr 4 0)], [.own [.p (.int .i64 N), .p (.list (il m))], .own [.p (.int .i64 N'), .p (.list (il m'))], .own [.p (.int .i64 0), .p (.list (il []))], .own [.p (.int .i64 8), .p (.int .i64 0)], .own [.p (.int .i64 8), .p (.int .i64 0)]]⟩) ?_ ?_
          · repeat (first | refine qa ?_ | refine qb ?_ | refine qc ?_ | refine qd ?_ | refine qe ?_ | refine qf ?_ | refine qg rfl ?_ | refine qh ?_ | refine qi ?_ | refine qj ?_ | refine qk ?_ | refine ql ?_ | refine qm ?_)
            refine hk_loop (ι := Nat) (fun i => ⟨215, [(2, .p (.list (ll ls))), (3, .ptr 0 0), (4, .ptr 1 0), (7, .ptr 2 0), (8, .ptr 3 0), (9, .ptr 4 0), (10, .p (.int .i64 0))], [.own [.p (.int .i64 N), .p (.list (il m))], .own [.p (.int .i64 N'), .p (.list (il m'))], .own [.p (.int .i64 0), .p (.list (il []))], .own [.p (.int .i64 8), .p (.int .i64 0)], .own [.p (.int .i64 8), .p (.int .i64 0)]]⟩) (fun i => i = 0) (fun i => 0) 0 rfl [0, 1, 2, 3, 4] (by simp only [leq, leA, ev0, evA, evB, evP, fl, gp, tab, simprocAttr, reduceCtorEq, reduceIte] <;> trivial) fun i hi => ?_
            repeat (first | refine qa ?_ | refine qb ?_ | refine qc ?_ | refine qd ?_ | refine qe ?_ | refine qf ?_ | refine qg rfl ?_ | refine qh ?_ | refine qi ?_ | refine qj ?_ | refine qk ?_ | refine ql ?_ | refine qm ?_)
            by_cases g10a : (0 : Int) < ls.length
            · refine hk_region fun K hK => runs_eval tab_ok ?_
              simp only [ev0, evA, evB, evP, fl, gp, tab, simprocAttr, reduceCtorEq, reduceIte, ll_length, decide_eq_true g10a]
              refine fin_run ?_ (hK _ ?_) <;> clear hK <;> clear K
              · (first | exact trivial | omega | (simp only [In64] at *; omega) | (simp [In64] at *; omega) | (simp_all; done) | skip)
              repeat (first | refine qa ?_ | refine qb ?_ | refine qc ?_ | refine qd ?_ | refine qe ?_ | refine qf ?_ | refine qg rfl ?_ | refine qh ?_ | refine qi ?_ | refine qj ?_ | refine qk ?_ | refine ql ?_ | refine qm ?_)
              refine hk_cond rfl (fun hC4 => ?_) (fun hC4 => ?_)
              · cases hC4
              · (try simp only [nhs] at hC4)
                repeat (first | refine qa ?_ | refine qb ?_ | refine qc ?_ | refine qd ?_ | refine qe ?_ | refine qf ?_ | refine qg rfl ?_ | refine qh ?_ | refine qi ?_ | refine qj ?_ | refine qk ?_ | refine ql ?_ | refine qm ?_)
                refine ⟨rfl, [0, 1, 2, 3, 4], ?_⟩
                simp only [leq, leA, ev0, evA, evB, evP, fl, gp, tab, simprocAttr, reduceCtorEq, reduceIte] <;> first | trivial | omega
            · refine hk_region fun K hK => runs_eval tab_ok ?_
              simp only [ev0, evA, evB, evP, fl, gp, tab, simprocAttr, reduceCtorEq, reduceIte, ll_length, decide_eq_false g10a]
              refine fin_run trivial (hK _ ?_) <;> clear hK <;> clear K
              repeat (first | refine qa ?_ | refine qb ?_ | refine qc ?_ | refine qd ?_ | refine qe ?_ | refine qf ?_ | refine qg rfl ?_ | refine qh ?_ | refine qi ?_ | refine qj ?_ | refine qk ?_ | refine ql ?_ | refine qm ?_)
              refine hk_cond rfl (fun hC4 => ?_) (fun hC4 => ?_)
              · cases hC4
              · repeat (first | refine qa ?_ | refine qb ?_ | refine qc ?_ | refine qd ?_ | refine qe ?_ | refine qf ?_ | refine qg rfl ?_ | refine qh ?_ | refine qi ?_ | refine qj ?_ | refine qk ?_ | refine ql ?_ | refine qm ?_)
                refine ⟨rfl, [0, 1, 2, 3, 4], ?_⟩
                simp only [leq, leA, ev0, evA, evB, evP, fl, gp, tab, simprocAttr, reduceCtorEq, reduceIte] <;> first | trivial | omega
          · repeat (first | refine qa ?_ | refine qb ?_ | refine qc ?_ | refine qd ?_ | refine qe ?_ | refine qf ?_ | refine qg rfl ?_ | refine qh ?_ | refine qi ?_ | refine qj ?_ | refine qk ?_ | refine ql ?_ | refine qm ?_)
            refine hk_region fun K hK => runs_eval tab_ok ?_
            simp only [ev0, evA, evB, evP, fl, gp, tab, simprocAttr, reduceCtorEq, reduceIte]
            refine fin_run trivial (hK _ ?_) <;> clear hK <;> clear K
            repeat (first | refine qa ?_ | refine qb ?_ | refine qc ?_ | refine qd ?_ | refine qe ?_ | refine qf ?_ | refine qg rfl ?_ | refine qh ?_ | refine qi ?_ | refine qj ?_ | refine qk ?_ | refine ql ?_ | refine qm ?_)
            refine hk_cutB (⟨215, [(2, .p (.list (ll ls))), (3, .ptr 0 0), (4, .ptr 1 0), (7, .ptr 2 0), (8, .ptr 3 0), (9, .ptr 4 0)], [.own [.p (.int .i64 N), .p (.list (il m))], .own [.p (.int .i64 N'), .p (.list (il m'))], .own [.p (.int .i64 0), .p (.list (il []))], .own [.p (.int .i64 8), .p (.int .i64 0)], .own [.p (.int .i64 8), .p (.int .i64 0)]]⟩) ?_ ?_
            · repeat (first | refine qa ?_ | refine qb ?_ | refine qc ?_ | refine qd ?_ | refine qe ?_ | refine qf ?_ | refine qg rfl ?_ | refine qh ?_ | refine qi ?_ | refine qj ?_ | refine qk ?_ | refine ql ?_ | refine qm ?_)
              refine hk_loop (ι := Nat) (fun a => ⟨215, [(2, .p (.list (ll ls))), (3, .ptr 0 0), (4, .ptr 1 0), (7, .ptr 2 0), (8, .ptr 3 0), (9, .ptr 4 0), (12, .p (.int .i64 0))], [.own [.p (.int .i64 N), .p (.list (il m))], .own [.p (.int .i64 N'), .p (.list (il m'))], .own [.p (.int .i64 0), .p (.list (il []))], .own [.p (.int .i64 8), .p (.int .i64 0)], .own [.p (.int .i64 8), .p (.int .i64 0)]]⟩) (fun a => a = 0) (fun a => 0) 0 rfl [0, 1, 2, 3, 4] (by simp only [leq, leA, ev0, evA, evB, evP, fl, gp, tab, simprocAttr, reduceCtorEq, reduceIte] <;> trivial) fun a ha => ?_
              repeat (first | refine qa ?_ | refine qb ?_ | refine qc ?_ | refine qd ?_ | refine qe ?_ | refine qf ?_ | refine qg rfl ?_ | refine qh ?_ | refine qi ?_ | refine qj ?_ | refine qk ?_ | refine ql ?_ | refine qm ?_)
              by_cases g18a : (0 : Int) < N'
              · refine hk_region fun K hK => runs_eval tab_ok ?_
                simp only [ev0, evA, evB, evP, fl, gp, tab, simprocAttr, reduceCtorEq, reduceIte, decide_eq_true g18a]
                refine fin_run ?_ (hK _ ?_) <;> clear hK <;> clear K
                · (first | exact trivial | omega | (simp only [In64] at *; omega) | (simp [In64] at *; omega) | (simp_all; done) | skip)
                repeat (first | refine qa ?_ | refine qb ?_ | refine qc ?_ | refine qd ?_ | refine qe ?_ | refine qf ?_ | refine qg rfl ?_ | refine qh ?_ | refine qi ?_ | refine qj ?_ | refine qk ?_ | refine ql ?_ | refine qm ?_)
                refine hk_cond rfl (fun hC7 => ?_) (fun hC7 => ?_)
                · cases hC7
                · (try simp only [nhs] at hC7)
                  repeat (first | refine qa ?_ | refine qb ?_ | refine qc ?_ | refine qd ?_ | refine qe ?_ | refine qf ?_ | refine qg rfl ?_ | refine qh ?_ | refine qi ?_ | refine qj ?_ | refine qk ?_ | refine ql ?_ | refine qm ?_)
                  refine ⟨rfl, [0, 1, 2, 3, 4], ?_⟩
                  simp only [leq, leA, ev0, evA, evB, evP, fl, gp, tab, simprocAttr, reduceCtorEq, reduceIte] <;> first | trivial | omega
              · refine hk_region fun K hK => runs_eval tab_ok ?_
                simp only [ev0, evA, evB, evP, fl, gp, tab, simprocAttr, reduceCtorEq, reduceIte, decide_eq_false g18a]
                refine fin_run ?_ (hK _ ?_) <;> clear hK <;> clear K
                · (first | exact trivial | omega | (simp only [In64] at *; omega) | (simp [In64] at *; omega) | (simp_all; done) | skip)
                repeat (first | refine qa ?_ | refine qb ?_ | refine qc ?_ | refine qd ?_ | refine qe ?_ | refine qf ?_ | refine qg rfl ?_ | refine qh ?_ | refine qi ?_ | refine qj ?_ | refine qk ?_ | refine ql ?_ | refine qm ?_)
                refine hk_cond rfl (fun hC7 => ?_) (fun hC7 => ?_)
                · cases hC7
                · repeat (first | refine qa ?_ | refine qb ?_ | refine qc ?_ | refine qd ?_ | refine qe ?_ | refine qf ?_ | refine qg rfl ?_ | refine qh ?_ | refine qi ?_ | refine qj ?_ | refine qk ?_ | refine ql ?_ | refine qm ?_)
                  refine ⟨rfl, [0, 1, 2, 3, 4], ?_⟩
                  simp only [leq, leA, ev0, evA, evB, evP, fl, gp, tab, simprocAttr, reduceCtorEq, reduceIte] <;> first | trivial | omega
            · repeat (first | refine qa ?_ | refine qb ?_ | refine qc ?_ | refine qd ?_ | refine qe ?_ | refine qf ?_ | refine qg rfl ?_ | refine qh ?_ | refine qi ?_ | refine qj ?_ | refine qk ?_ | refine ql ?_ | refine qm ?_)
              refine hk_region fun K hK => runs_eval tab_ok ?_
              simp only [ev0, evA, evB, evP, fl, gp, tab, simprocAttr, reduceCtorEq, reduceIte]
              refine fin_run ?_ (hK _ ?_) <;> clear hK <;> clear K
              · (first | exact trivial | omega | (simp only [In64] at *; omega) | (simp [In64] at *; omega) | (simp_all; done) | skip)
              repeat (first | refine qa ?_ | refine qb ?_ | refine qc ?_ | refine qd ?_ | refine qe ?_ | refine qf ?_ | refine qg rfl ?_ | refine qh ?_ | refine qi ?_ | refine qj ?_ | refine qk ?_ | refine ql ?_ | refine qm ?_)
              refine hk_cond rfl (fun hC10 => ?_) (fun hC10 => ?_)
              · cases hC10
              · repeat (first | refine qa ?_ | refine qb ?_ | refine qc ?_ | refine qd ?_ | refine qe ?_ | refine qf ?_ | refine qg rfl ?_ | refine qh ?_ | refine qi ?_ | refine qj ?_ | refine qk ?_ | refine ql ?_ | refine qm ?_)
                refine hk_region fun K hK => runs_eval tab_ok ?_
                simp only [ev0, evA, evB, evP, fl, gp, tab, simprocAttr, reduceCtorEq, reduceIte, bne_self_eq_false]
                refine fin_run ?_ (hK _ ?_) <;> clear hK <;> clear K
                · (first | exact trivial | omega | (simp only [In64] at *; omega) | (simp [In64] at *; omega) | (simp_all; done) | skip)
                repeat (first | refine qa ?_ | refine qb ?_ | refine qc ?_ | refine qd ?_ | refine qe ?_ | refine qf ?_ | refine qg rfl ?_ | refine qh ?_ | refine qi ?_ | refine qj ?_ | refine qk ?_ | refine ql ?_ | refine qm ?_)
                refine hk_cond rfl (fun hC11 => ?_) (fun hC11 => ?_)
                · cases hC11
                · (try simp only [nhs] at hC11)
                  repeat (first | refine qa ?_ | refine qb ?_ | refine qc ?_ | refine qd ?_ | refine qe ?_ | refine qf ?_ | refine qg rfl ?_ | refine qh ?_ | refine qi ?_ | refine qj ?_ | refine qk ?_ | refine ql ?_ | refine qm ?_)
                  refine hk_region fun K hK => runs_eval tab_ok ?_
                  simp only [ev0, evA, evB, evP, fl, gp, tab, simprocAttr, reduceCtorEq, reduceIte]
                  refine fin_run ?_ (hK _ ?_) <;> clear hK <;> clear K
                  · (first | exact trivial | omega | (simp only [In64] at *; omega) | (simp [In64] at *; omega) | (simp_all; done) | skip)
                  repeat (first | refine qa ?_ | refine qb ?_ | refine qc ?_ | refine qd ?_ | refine qe ?_ | refine qf ?_ | refine qg rfl ?_ | refine qh ?_ | refine qi ?_ | refine qj ?_ | refine qk ?_ | refine ql ?_ | refine qm ?_)
                  refine hk_cond rfl (fun hC12 => ?_) (fun hC12 => ?_)
                  · (try simp only [nhs] at hC12)
                    repeat (first | refine qa ?_ | refine qb ?_ | refine qc ?_ | refine qd ?_ | refine qe ?_ | refine qf ?_ | refine qg rfl ?_ | refine qh ?_ | refine qi ?_ | refine qj ?_ | refine qk ?_ | refine ql ?_ | refine qm ?_)
                    refine hk_region fun K hK => runs_eval tab_ok ?_
                    simp only [ev0, evA, evB, evP, fl, gp, tab, simprocAttr, reduceCtorEq, reduceIte]
                    refine fin_stop trivial (runs_call (noGroup_c 0 []) rfl rfl rfl (by simp only [dstOk, Nat.reduceLT]) (by repeat (first | exact trivial | constructor)) (runs_eval tab_ok ?_))
                    simp only [ev0, evA, evB, evP, fl, gp, tab, simprocAttr, reduceCtorEq, reduceIte]
                    refine fin_run ?_ (hK _ ?_) <;> clear hK <;> clear K
                    · (first | exact trivial | omega | (simp only [In64] at *; omega) | (simp [In64] at *; omega) | (simp_all; done) | skip)
                    repeat (first | refine qa ?_ | refine qb ?_ | refine qc ?_ | refine qd ?_ | refine qe ?_ | refine qf ?_ | refine qg rfl ?_ | refine qh ?_ | refine qi ?_ | refine qj ?_ | refine qk ?_ | refine ql ?_ | refine qm ?_)
                    simp only [Try.results3, enA, ev0, evA, evB, evP, fl, gp, tab, simprocAttr, reduceCtorEq, reduceIte]
                    all_goals (rfl)
                  · cases hC12
        · (try simp only [nhs] at hC3)
          exact absurd hC3 hl
      · obtain rfl := h.1
        obtain rfl := h'.1
        have T := h.2.1
        have T' := h'.2.1
        have G' := h'.2.2
        have hs1 := T.big
        have hs2 := T'.big
        have hmul : (n : Int) * (n' : Int) = ((n * n' : Nat) : Int) := (Int.natCast_mul _ _).symm
        have hmle : n * n' ≤ 60 * 60 := Nat.mul_le_mul hs1 hs2
        have z : (tg n m n' m').1 = 0 := by rw [ht]
        have hlI : (ls.length : Int) = n' := by omega
        have hsem := semi_no n m n' m' ls (by omega) (by omega) hps
        have hW1 : ∃ w1 : Int × Int, ((∀ j, j < n' → rwc n m (ls.getD j []) = 0) ∧ w1 = (0, 0)) ∨ (∃ i, i < n' ∧ ¬ rwc n m (ls.getD i []) = 0 ∧ (∀ j, j < i → rwc n m (ls.getD j []) = 0) ∧ w1 = (rwc n m (ls.getD i []), (i : Int))) := by
          by_cases hh : ∀ j, j < n' → rwc n m (ls.getD j []) = 0
          · exact ⟨(0, 0), .inl ⟨hh, rfl⟩⟩
          · have hex : ∃ i, i < n' ∧ ¬ rwc n m (ls.getD i []) = 0 := Classical.byContradiction fun hc => hh fun j hj => Classical.byContradiction fun h3 => hc ⟨j, hj, h3⟩
            obtain ⟨k, hk⟩ := hex
            induction k using Nat.strongRecOn with
            | _ k ih =>
              by_cases hb : ∃ j, j < k ∧ ¬ rwc n m (ls.getD j []) = 0
              · obtain ⟨j, j1, j2⟩ := hb
                exact ih j j1 ⟨by omega, j2⟩
              · exact ⟨_, .inr ⟨k, hk.1, hk.2, fun j hj => Classical.byContradiction fun h3 => hb ⟨j, hj, h3⟩, rfl⟩⟩
        obtain ⟨w1, hW1⟩ := hW1
        have hw1u : ∀ i, i < n' → ¬ rwc n m (ls.getD i []) = 0 → (∀ j, j < i → rwc n m (ls.getD j []) = 0) → w1 = (rwc n m (ls.getD i []), (i : Int)) := fun i hi h1 h2 => by
          rcases hW1 with ⟨h3, _⟩ | ⟨k, k1, k2, k3, k4⟩
          · exact absurd (h3 i hi) h1
          · rcases Nat.lt_trichotomy i k with h5 | h5 | h5
            · exact absurd (k3 i h5) h1
            · rw [h5]; exact k4
            · exact absurd (h2 k h5) k2
        generalize hFd : psf n m n' m' ls = F at *
        refine hk_draw2 mixed fun K hK => runs2_eval tab_ok ?_
        simp only [evD, ev0, evA, evB, evP, fl, gp, tab, simprocAttr, reduceCtorEq, reduceIte]
        refine fin2_stop trivial (runs2_call (ownGroup_c n m hm) rfl rfl rfl rfl (by simp only [dstOk, Nat.reduceLT]) (by repeat (first | exact trivial | constructor)) (runs2_eval tab_ok ?_))
        simp only [evD, ev0, evA, evB, evP, fl, gp, tab, simprocAttr, reduceCtorEq, reduceIte]
        refine fin2_stop trivial (runs2_call (ownGroup_c n' m' hm') rfl rfl rfl rfl (by simp only [dstOk, Nat.reduceLT]) (by repeat (first | exact trivial | constructor)) (runs2_eval tab_ok ?_))
        simp only [evD, ev0, evA, evB, evP, fl, gp, tab, simprocAttr, reduceCtorEq, reduceIte]
        refine fin2_stop trivial (runs2_call (ownLists_c ls (by omega) hrows) rfl rfl rfl rfl (by simp only [dstOk, Nat.reduceLT]) (by repeat (first | exact trivial | constructor)) (runs2_eval tab_ok ?_))
        simp only [evD, ev0, evA, evB, evP, fl, gp, tab, simprocAttr, reduceCtorEq, reduceIte]
        refine fin2_stop trivial (runs2_call (hsem) rfl rfl rfl rfl (by simp only [dstOk, Nat.reduceLT]) (by repeat (first | exact trivial | constructor)) (runs2_eval tab_ok ?_))
        simp only [evD, ev0, evA, evB, evP, fl, gp, tab, simprocAttr, reduceCtorEq, reduceIte]
        refine fin2_run ?_ (hK _ _ (by first | kernel_rfl | rfl) ?_) <;> clear hK <;> clear K
        · (first | exact trivial | omega | (simp only [In64] at *; omega) | (simp [In64] at *; omega) | (simp_all; done) | skip)
        repeat (first | refine qa ?_ | refine qb ?_ | refine qc ?_ | refine qd ?_ | refine qe ?_ | refine qf ?_ | refine qg rfl ?_ | refine qh ?_ | refine qi ?_ | refine qj ?_ | refine qk ?_ | refine ql ?_ | refine qm ?_)
        refine hk_region fun K hK => runs_eval tab_ok ?_
        simp only [ev0, evA, evB, evP, fl, gp, tab, simprocAttr, reduceCtorEq, reduceIte]
        refine fin_stop trivial (runs_call (twoGroups_c n m n' m' (by omega) (by omega)) rfl rfl rfl (by simp only [dstOk, Nat.reduceLT]) (by repeat (first | exact trivial | constructor)) (runs_eval tab_ok ?_))
        simp only [ev0, evA, evB, evP, fl, gp, tab, simprocAttr, reduceCtorEq, reduceIte, ht]
        refine fin_run ?_ (hK _ ?_) <;> clear hK <;> clear K
        · (first | exact trivial | omega | (simp only [In64] at *; omega) | (simp [In64] at *; omega) | (simp_all; done) | skip)
        repeat (first | refine qa ?_ | refine qb ?_ | refine qc ?_ | refine qd ?_ | refine qe ?_ | refine qf ?_ | refine qg rfl ?_ | refine qh ?_ | refine qi ?_ | refine qj ?_ | refine qk ?_ | refine ql ?_ | refine qm ?_)
        refine hk_region fun K hK => runs_eval tab_ok ?_
        simp only [ev0, evA, evB, evP, fl, gp, tab, simprocAttr, reduceCtorEq, reduceIte, ll_length, hl]
        refine fin_run ?_ (hK _ ?_) <;> clear hK <;> clear K
        · (first | exact trivial | omega | (simp only [In64] at *; omega) | (simp [In64] at *; omega) | (simp_all; done) | skip)
        repeat (first | refine qa ?_ | refine qb ?_ | refine qc ?_ | refine qd ?_ | refine qe ?_ | refine qf ?_ | refine qg rfl ?_ | refine qh ?_ | refine qi ?_ | refine qj ?_ | refine qk ?_ | refine ql ?_ | refine qm ?_)
        refine hk_cond rfl (fun hC3 => ?_) (fun hC3 => ?_)
        · cases hC3
        · (try simp only [nhs] at hC3)
          repeat (first | refine qa ?_ | refine qb ?_ | refine qc ?_ | refine qd ?_ | refine qe ?_ | refine qf ?_ | refine qg rfl ?_ | refine qh ?_ | refine qi ?_ | refine qj ?_ | refine qk ?_ | refine ql ?_ | refine qm ?_)
          refine hk_region fun K hK => runs_eval tab_ok ?_
          simp only [ev0, evA, evB, evP, fl, gp, tab, simprocAttr, reduceCtorEq, reduceIte]
          refine fin_run trivial (hK _ ?_) <;> clear hK <;> clear K
          repeat (first | refine qa ?_ | refine qb ?_ | refine qc ?_ | refine qd ?_ | refine qe ?_ | refine qf ?_ | refine qg rfl ?_ | refine qh ?_ | refine qi ?_ | refine qj ?_ | refine qk ?_ | refine ql ?_ | refine qm ?_)
          refine hk_cutB (⟨215, [(2, .p (.list (ll ls))), (3, .ptr 0 0), (4, .ptr 1 0), (7, .ptr 2 0), (8, .ptr 3 0), (9, .ptr 4 0)], [.own [.p (.int .i64 n), .p (.list (il m))], .own [.p (.int .i64 n'), .p (.list (il m'))], .own [.p (.int .i64 0), .p (.list (il []))], .own [.p (.int .i64 F.1), .p (.int .i64 F.2)], .own [.p (.int .i64 w1.1), .p (.int .i64 w1.2)]]⟩) ?_ ?_
          · repeat (first | refine qa ?_ | refine qb ?_ | refine qc ?_ | refine qd ?_ | refine qe ?_ | refine qf ?_ | refine qg rfl ?_ | refine qh ?_ | refine qi ?_ | refine qj ?_ | refine qk ?_ | refine ql ?_ | refine qm ?_)
            refine hk_loop (ι := Nat × (Int × Int)) (fun q => ⟨215, [(2, .p (.list (ll ls))), (3, .ptr 0 0), (4, .ptr 1 0), (7, .ptr 2 0), (8, .ptr 3 0), (9, .ptr 4 0), (10, .p (.int .i64 q.1))], [.own [.p (.int .i64 n), .p (.list (il m))], .own [.p (.int .i64 n'), .p (.list (il m'))], .own [.p (.int .i64 0), .p (.list (il []))], .own [.p (.int .i64 F.1), .p (.int .i64 F.2)], .own [.p (.int .i64 q.2.1), .p (.int .i64 q.2.2)]]⟩) (fun q => q.1 ≤ n' ∧ (q.2.1 = 0 → q.2 = (0, 0) ∧ ∀ j, j < q.1 → rwc n m (ls.getD j []) = 0) ∧ (¬ q.2.1 = 0 → q.2 = w1)) (fun q => n' - q.1) (0, (0, 0)) ⟨Nat.zero_le _, fun _ => ⟨rfl, fun j hj => by simp only at hj; omega⟩, fun hh => absurd rfl hh⟩ [0, 1, 2, 3, 4] (by simp only [leq, leA, ev0, evA, evB, evP, fl, gp, tab, simprocAttr, reduceCtorEq, reduceIte] <;> trivial) fun q hq => ?_
            obtain ⟨i, w⟩ := q
            obtain ⟨hi, hi2, hi3⟩ := hq
            simp only at hi hi2 hi3
            repeat (first | refine qa ?_ | refine qb ?_ | refine qc ?_ | refine qd ?_ | refine qe ?_ | refine qf ?_ | refine qg rfl ?_ | refine qh ?_ | refine qi ?_ | refine qj ?_ | refine qk ?_ | refine ql ?_ | refine qm ?_)
            by_cases g10a : (i : Int) < n'
            · refine hk_region fun K hK => runs_eval tab_ok ?_
              simp only [ev0, evA, evB, evP, fl, gp, tab, simprocAttr, reduceCtorEq, reduceIte, ll_length, hl, decide_eq_true g10a]
              refine fin_run ?_ (hK _ ?_) <;> clear hK <;> clear K
              · (first | exact trivial | omega | (simp only [In64] at *; omega) | (simp [In64] at *; omega) | (simp_all; done) | skip)
              repeat (first | refine qa ?_ | refine qb ?_ | refine qc ?_ | refine qd ?_ | refine qe ?_ | refine qf ?_ | refine qg rfl ?_ | refine qh ?_ | refine qi ?_ | refine qj ?_ | refine qk ?_ | refine ql ?_ | refine qm ?_)
              refine hk_cond rfl (fun hC4 => ?_) (fun hC4 => ?_)
              · (try simp only [nhs] at hC4)
                repeat (first | refine qa ?_ | refine qb ?_ | refine qc ?_ | refine qd ?_ | refine qe ?_ | refine qf ?_ | refine qg rfl ?_ | refine qh ?_ | refine qi ?_ | refine qj ?_ | refine qk ?_ | refine ql ?_ | refine qm ?_)
                have hlt : i < n' := by omega
                obtain ⟨hw0, hj⟩ := hi2 hC4
                subst hw0
                refine hk_draw2 mixed fun K hK => runs2_eval tab_ok ?_
                simp only [evD, ev0, evA, evB, evP, fl, gp, tab, simprocAttr, reduceCtorEq, reduceIte, ll_length, ll_get (show i < ls.length by omega)]
                refine fin2_stop ?_ (runs2_call (homFault_c n m n m (ls.getD i []) (by omega) (by omega)) rfl rfl rfl rfl (by simp only [dstOk, Nat.reduceLT]) (by repeat (first | exact trivial | constructor)) (runs2_eval tab_ok ?_))
                · (first | exact trivial | omega | (simp only [In64] at *; omega) | (simp [In64] at *; omega) | (simp_all; done) | skip)
                simp only [evD, ev0, evA, evB, evP, fl, gp, tab, simprocAttr, reduceCtorEq, reduceIte, ll_length, ll_get (show i < ls.length by omega)]
                refine fin2_run ?_ (hK _ _ (by first | kernel_rfl | rfl) ?_) <;> clear hK <;> clear K
                · (first | exact trivial | omega | (simp only [In64] at *; omega) | (simp [In64] at *; omega) | (simp_all; done) | skip)
                repeat (first | refine qa ?_ | refine qb ?_ | refine qc ?_ | refine qd ?_ | refine qe ?_ | refine qf ?_ | refine qg rfl ?_ | refine qh ?_ | refine qi ?_ | refine qj ?_ | refine qk ?_ | refine ql ?_ | refine qm ?_)
                refine hk_region fun K hK => runs_eval tab_ok ?_
                simp only [ev0, evA, evB, evP, fl, gp, tab, simprocAttr, reduceCtorEq, reduceIte]
                refine fin_run ?_ (hK _ ?_) <;> clear hK <;> clear K
                · (first | exact trivial | omega | (simp only [In64] at *; omega) | (simp [In64] at *; omega) | (simp_all; done) | skip)
                repeat (first | refine qa ?_ | refine qb ?_ | refine qc ?_ | refine qd ?_ | refine qe ?_ | refine qf ?_ | refine qg rfl ?_ | refine qh ?_ | refine qi ?_ | refine qj ?_ | refine qk ?_ | refine ql ?_ | refine qm ?_)
                refine hk_cond rfl (fun hC5 => ?_) (fun hC5 => ?_)
                · (try simp only [nhs] at hC5)
                  repeat (first | refine qa ?_ | refine qb ?_ | refine qc ?_ | refine qd ?_ | refine qe ?_ | refine qf ?_ | refine qg rfl ?_ | refine qh ?_ | refine qi ?_ | refine qj ?_ | refine qk ?_ | refine ql ?_ | refine qm ?_)
                  refine hk_region fun K hK => runs_eval tab_ok ?_
                  simp only [ev0, evA, evB, evP, fl, gp, tab, simprocAttr, reduceCtorEq, reduceIte]
                  refine fin_stop trivial (runs_call (f_c (homf n m n m (ls.getD i [])).1 i) rfl rfl rfl (by simp only [dstOk, Nat.reduceLT]) (by repeat (first | exact trivial | constructor)) (runs_eval tab_ok ?_))
                  simp only [ev0, evA, evB, evP, fl, gp, tab, simprocAttr, reduceCtorEq, reduceIte]
                  refine fin_run ?_ (hK _ ?_) <;> clear hK <;> clear K
                  · (first | exact trivial | omega | (simp only [In64] at *; omega) | (simp [In64] at *; omega) | (simp_all; done) | skip)
                  repeat (first | refine qa ?_ | refine qb ?_ | refine qc ?_ | refine qd ?_ | refine qe ?_ | refine qf ?_ | refine qg rfl ?_ | refine qh ?_ | refine qi ?_ | refine qj ?_ | refine qk ?_ | refine ql ?_ | refine qm ?_)
                  refine hk_region fun K hK => runs_eval tab_ok ?_
                  simp only [ev0, evA, evB, evP, fl, gp, tab, simprocAttr, reduceCtorEq, reduceIte]
                  refine fin_run ?_ (hK _ ?_) <;> clear hK <;> clear K
                  · (first | exact trivial | omega | (simp only [In64] at *; omega) | (simp [In64] at *; omega) | (simp_all; done) | skip)
                  repeat (first | refine qa ?_ | refine qb ?_ | refine qc ?_ | refine qd ?_ | refine qe ?_ | refine qf ?_ | refine qg rfl ?_ | refine qh ?_ | refine qi ?_ | refine qj ?_ | refine qk ?_ | refine ql ?_ | refine qm ?_)
                  refine ⟨(i + 1, ((homf n m n m (ls.getD i [])).1, (i : Int))), [0, 1, 2, 3, 4], ⟨by simp only; omega, fun hh => absurd hh hC5, fun _ => ?_⟩, by simp only; omega, ?_⟩
                  · have hrw : rwc n m (ls.getD i []) = (homf n m n m (ls.getD i [])).1 := by (unfold rwc; rw [if_pos hC5])
                    rw [hw1u i hlt (by rw [hrw]; exact hC5) hj, hrw]
                  · simp only [leq, leA, ev0, evA, evB, evP, fl, gp, tab, simprocAttr, reduceCtorEq, reduceIte] <;> first | trivial | omega
                · (try simp only [nhs] at hC5)
                  repeat (first | refine qa ?_ | refine qb ?_ | refine qc ?_ | refine qd ?_ | refine qe ?_ | refine qf ?_ | refine qg rfl ?_ | refine qh ?_ | refine qi ?_ | refine qj ?_ | refine qk ?_ | refine ql ?_ | refine qm ?_)
                  have hlr : (ls.getD i []).length = n := by
                    obtain ⟨n1, e1, n2, e2, hg1, hg2, hH, _⟩ := homf_ok hC5
                    have q1 := hg1.1
                    obtain rfl : n = n1 := by omega
                    exact hH.1
                  have hrw : rwc n m (ls.getD i []) = if ¬ onto1 (ls.getD i []) n then 10 else 0 := by
                    unfold rwc
                    rw [if_neg (by simpa using hC5)]
                    rfl
                  refine hk_draw mixed (by kernel_rfl) fun K hK => runs_eval tab_ok ?_
                  simp only [ev0, evA, evB, evP, fl, gp, tab, simprocAttr, reduceCtorEq, reduceIte, ll_length, ll_get (show i < ls.length by omega)]
                  refine fin_stop ?_ (runs_call (oneToOne_r (ls.getD i []) n (by omega) (by omega)) rfl rfl rfl (by simp only [dstOk, Nat.reduceLT]) (by repeat (first | exact trivial | constructor)) (runs_eval tab_ok ?_))
                  · (first | exact trivial | omega | (simp only [In64] at *; omega) | (simp [In64] at *; omega) | (simp_all; done) | skip)
                  simp only [ev0, evA, evB, evP, fl, gp, tab, simprocAttr, reduceCtorEq, reduceIte, ll_length, ll_get (show i < ls.length by omega)]
                  refine fin_run ?_ (hK _ ?_) <;> clear hK <;> clear K
                  · (first | exact trivial | omega | (simp only [In64] at *; omega) | (simp [In64] at *; omega) | (simp_all; done) | skip)
                  repeat (first | refine qa ?_ | refine qb ?_ | refine qc ?_ | refine qd ?_ | refine qe ?_ | refine qf ?_ | refine qg rfl ?_ | refine qh ?_ | refine qi ?_ | refine qj ?_ | refine qk ?_ | refine ql ?_ | refine qm ?_)
                  refine hk_cond rfl (fun hC6 => ?_) (fun hC6 => ?_)
                  · (try simp only [nhs] at hC6)
                    repeat (first | refine qa ?_ | refine qb ?_ | refine qc ?_ | refine qd ?_ | refine qe ?_ | refine qf ?_ | refine qg rfl ?_ | refine qh ?_ | refine qi ?_ | refine qj ?_ | refine qk ?_ | refine ql ?_ | refine qm ?_)
                    have ho : ¬ onto1 (ls.getD i []) n := by simpa using hC6
                    rw [if_pos ho] at hrw
                    refine hk_region fun K hK => runs_eval tab_ok ?_
                    simp only [ev0, evA, evB, evP, fl, gp, tab, simprocAttr, reduceCtorEq, reduceIte]
                    refine fin_stop trivial (runs_call (f_c 10 i) rfl rfl rfl (by simp only [dstOk, Nat.reduceLT]) (by repeat (first | exact trivial | constructor)) (runs_eval tab_ok ?_))
                    simp only [ev0, evA, evB, evP, fl, gp, tab, simprocAttr, reduceCtorEq, reduceIte]
                    refine fin_run ?_ (hK _ ?_) <;> clear hK <;> clear K
                    · (first | exact trivial | omega | (simp only [In64] at *; omega) | (simp [In64] at *; omega) | (simp_all; done) | skip)
                    repeat (first | refine qa ?_ | refine qb ?_ | refine qc ?_ | refine qd ?_ | refine qe ?_ | refine qf ?_ | refine qg rfl ?_ | refine qh ?_ | refine qi ?_ | refine qj ?_ | refine qk ?_ | refine ql ?_ | refine qm ?_)
                    refine hk_region fun K hK => runs_eval tab_ok ?_
                    simp only [ev0, evA, evB, evP, fl, gp, tab, simprocAttr, reduceCtorEq, reduceIte]
                    refine fin_run ?_ (hK _ ?_) <;> clear hK <;> clear K
                    · (first | exact trivial | omega | (simp only [In64] at *; omega) | (simp [In64] at *; omega) | (simp_all; done) | skip)
                    repeat (first | refine qa ?_ | refine qb ?_ | refine qc ?_ | refine qd ?_ | refine qe ?_ | refine qf ?_ | refine qg rfl ?_ | refine qh ?_ | refine qi ?_ | refine qj ?_ | refine qk ?_ | refine ql ?_ | refine qm ?_)
                    refine ⟨(i + 1, (10, (i : Int))), [0, 1, 2, 3, 4], ⟨by simp only; omega, fun hh => by simp at hh, fun _ => ?_⟩, by simp only; omega, ?_⟩
                    · rw [hw1u i hlt (by rw [hrw]; simp) hj, hrw]
                    · simp only [leq, leA, ev0, evA, evB, evP, fl, gp, tab, simprocAttr, reduceCtorEq, reduceIte] <;> first | trivial | omega
                  · (try simp only [nhs] at hC6)
                    repeat (first | refine qa ?_ | refine qb ?_ | refine qc ?_ | refine qd ?_ | refine qe ?_ | refine qf ?_ | refine qg rfl ?_ | refine qh ?_ | refine qi ?_ | refine qj ?_ | refine qk ?_ | refine ql ?_ | refine qm ?_)
                    have ho : onto1 (ls.getD i []) n := by simpa using hC6
                    rw [if_neg (by simpa using ho)] at hrw
                    refine hk_region fun K hK => runs_eval tab_ok ?_
                    simp only [ev0, evA, evB, evP, fl, gp, tab, simprocAttr, reduceCtorEq, reduceIte]
                    refine fin_run ?_ (hK _ ?_) <;> clear hK <;> clear K
                    · (first | exact trivial | omega | (simp only [In64] at *; omega) | (simp [In64] at *; omega) | (simp_all; done) | skip)
                    repeat (first | refine qa ?_ | refine qb ?_ | refine qc ?_ | refine qd ?_ | refine qe ?_ | refine qf ?_ | refine qg rfl ?_ | refine qh ?_ | refine qi ?_ | refine qj ?_ | refine qk ?_ | refine ql ?_ | refine qm ?_)
                    refine ⟨(i + 1, (0, 0)), [0, 1, 2, 3, 4], ⟨by simp only; omega, fun _ => ⟨rfl, fun j hj' => ?_⟩, fun hh => absurd rfl hh⟩, by simp only; omega, ?_⟩
                    · by_cases hji : j = i
                      · rw [hji]; exact hrw
                      · exact hj j (by simp only at hj'; omega)
                    · simp only [leq, leA, ev0, evA, evB, evP, fl, gp, tab, simprocAttr, reduceCtorEq, reduceIte] <;> first | trivial | omega
              · (try simp only [nhs] at hC4)
                repeat (first | refine qa ?_ | refine qb ?_ | refine qc ?_ | refine qd ?_ | refine qe ?_ | refine qf ?_ | refine qg rfl ?_ | refine qh ?_ | refine qi ?_ | refine qj ?_ | refine qk ?_ | refine ql ?_ | refine qm ?_)
                have hww := hi3 hC4
                subst hww
                refine ⟨rfl, [0, 1, 2, 3, 4], ?_⟩
                simp only [leq, leA, ev0, evA, evB, evP, fl, gp, tab, simprocAttr, reduceCtorEq, reduceIte] <;> first | trivial | omega
            · refine hk_region fun K hK => runs_eval tab_ok ?_
              simp only [ev0, evA, evB, evP, fl, gp, tab, simprocAttr, reduceCtorEq, reduceIte, ll_length, hl, decide_eq_false g10a]
              refine fin_run trivial (hK _ ?_) <;> clear hK <;> clear K
              repeat (first | refine qa ?_ | refine qb ?_ | refine qc ?_ | refine qd ?_ | refine qe ?_ | refine qf ?_ | refine qg rfl ?_ | refine qh ?_ | refine qi ?_ | refine qj ?_ | refine qk ?_ | refine ql ?_ | refine qm ?_)
              refine hk_cond rfl (fun hC4 => ?_) (fun hC4 => ?_)
              · cases hC4
              · repeat (first | refine qa ?_ | refine qb ?_ | refine qc ?_ | refine qd ?_ | refine qe ?_ | refine qf ?_ | refine qg rfl ?_ | refine qh ?_ | refine qi ?_ | refine qj ?_ | refine qk ?_ | refine ql ?_ | refine qm ?_)
                have hww : w = w1 := by
                  by_cases hz : w.1 = 0
                  · obtain ⟨h1, h2⟩ := hi2 hz
                    rcases hW1 with ⟨_, h3⟩ | ⟨k, k1, k2, _⟩
                    · rw [h1, h3]
                    · exact absurd (h2 k (by omega)) k2
                  · exact hi3 hz
                subst hww
                refine ⟨rfl, [0, 1, 2, 3, 4], ?_⟩
                simp only [leq, leA, ev0, evA, evB, evP, fl, gp, tab, simprocAttr, reduceCtorEq, reduceIte] <;> first | trivial | omega
          · repeat (first | refine qa ?_ | refine qb ?_ | refine qc ?_ | refine qd ?_ | refine qe ?_ | refine qf ?_ | refine qg rfl ?_ | refine qh ?_ | refine qi ?_ | refine qj ?_ | refine qk ?_ | refine ql ?_ | refine qm ?_)
            rcases hW1 with ⟨hr, hw0⟩ | ⟨i, i1, i2, i3, i4⟩
            · subst hw0
              have hF2 := psf_2 (m := m) (m' := m') z hlI (fun j hj => hr j (by omega))
              rw [hFd] at hF2
              have hrow : ∀ y, y < n' → (ls.getD y []).length = n ∧ ∀ x, x < n → (ls.getD y []).getD x 0 = ((hv (ls.getD y []) x : Nat) : Int) ∧ hv (ls.getD y []) x < n := fun y hy => ⟨(rwc_ok (hr y hy)).1.1, (rwc_ok (hr y hy)).1.2.1⟩
              have hrng : ∀ y, y < n' → ∀ x ∈ ls.getD y [], 0 ≤ x ∧ x < (n : Int) := fun y hy x hx => by
                obtain ⟨k, hk, rfl⟩ := List.getElem_of_mem hx
                obtain ⟨h1, h2⟩ := (hrow y hy).2 k (by have := (hrow y hy).1; omega)
                rw [List.getD, List.getElem?_eq_getElem hk] at h1
                simp only [Option.getD_some] at h1
                omega
              have hW2 : ∃ w2 : Int × Int, ((∀ j, j < n' → mgd m' n' ls j) ∧ w2 = (0, 0)) ∨ (∃ i, i < n' ∧ ¬ mgd m' n' ls i ∧ (∀ j, j < i → mgd m' n' ls j) ∧ w2 = (7, (i : Int))) := by
                by_cases hh : ∀ j, j < n' → mgd m' n' ls j
                · exact ⟨(0, 0), .inl ⟨hh, rfl⟩⟩
                · have hex : ∃ i, i < n' ∧ ¬ mgd m' n' ls i := Classical.byContradiction fun hc => hh fun j hj => Classical.byContradiction fun h3 => hc ⟨j, hj, h3⟩
                  obtain ⟨k, hk⟩ := hex
                  induction k using Nat.strongRecOn with
                  | _ k ih =>
                    by_cases hb : ∃ j, j < k ∧ ¬ mgd m' n' ls j
                    · obtain ⟨j, j1, j2⟩ := hb
                      exact ih j j1 ⟨by omega, j2⟩
                    · exact ⟨_, .inr ⟨k, hk.1, hk.2, fun j hj => Classical.byContradiction fun h3 => hb ⟨j, hj, h3⟩, rfl⟩⟩
              obtain ⟨w2, hW2⟩ := hW2
              have hw2u : ∀ i, i < n' → ¬ mgd m' n' ls i → (∀ j, j < i → mgd m' n' ls j) → w2 = (7, (i : Int)) := fun i hi h1 h2 => by
                rcases hW2 with ⟨h3, _⟩ | ⟨k, k1, k2, k3, k4⟩
                · exact absurd (h3 i hi) h1
                · rcases Nat.lt_trichotomy i k with h5 | h5 | h5
                  · exact absurd (k3 i h5) h1
                  · rw [h5]; exact k4
                  · exact absurd (h2 k h5) k2
              refine hk_region fun K hK => runs_eval tab_ok ?_
              simp only [ev0, evA, evB, evP, fl, gp, tab, simprocAttr, reduceCtorEq, reduceIte]
              refine fin_run trivial (hK _ ?_) <;> clear hK <;> clear K
              repeat (first | refine qa ?_ | refine qb ?_ | refine qc ?_ | refine qd ?_ | refine qe ?_ | refine qf ?_ | refine qg rfl ?_ | refine qh ?_ | refine qi ?_ | refine qj ?_ | refine qk ?_ | refine ql ?_ | refine qm ?_)
              refine hk_cutB (⟨215, [(2, .p (.list (ll ls))), (3, .ptr 0 0), (4, .ptr 1 0), (7, .ptr 2 0), (8, .ptr 3 0), (9, .ptr 4 0)], [.own [.p (.int .i64 n), .p (.list (il m))], .own [.p (.int .i64 n'), .p (.list (il m'))], .own [.p (.int .i64 0), .p (.list (il []))], .own [.p (.int .i64 F.1), .p (.int .i64 F.2)], .own [.p (.int .i64 w2.1), .p (.int .i64 w2.2)]]⟩) ?_ ?_
              · repeat (first | refine qa ?_ | refine qb ?_ | refine qc ?_ | refine qd ?_ | refine qe ?_ | refine qf ?_ | refine qg rfl ?_ | refine qh ?_ | refine qi ?_ | refine qj ?_ | refine qk ?_ | refine ql ?_ | refine qm ?_)
                refine hk_loop (ι := Nat × (Int × Int)) (fun q => ⟨215, [(2, .p (.list (ll ls))), (3, .ptr 0 0), (4, .ptr 1 0), (7, .ptr 2 0), (8, .ptr 3 0), (9, .ptr 4 0), (12, .p (.int .i64 q.1))], [.own [.p (.int .i64 n), .p (.list (il m))], .own [.p (.int .i64 n'), .p (.list (il m'))], .own [.p (.int .i64 0), .p (.list (il []))], .own [.p (.int .i64 F.1), .p (.int .i64 F.2)], .own [.p (.int .i64 q.2.1), .p (.int .i64 q.2.2)]]⟩) (fun q => q.1 ≤ n' ∧ (q.2.1 = 0 → q.2 = (0, 0) ∧ ∀ j, j < q.1 → mgd m' n' ls j) ∧ (¬ q.2.1 = 0 → q.2 = w2)) (fun q => n' - q.1) (0, (0, 0)) ⟨Nat.zero_le _, fun _ => ⟨rfl, fun j hj => by simp only at hj; omega⟩, fun hh => absurd rfl hh⟩ [0, 1, 2, 3, 4] (by simp only [leq, leA, ev0, evA, evB, evP, fl, gp, tab, simprocAttr, reduceCtorEq, reduceIte] <;> trivial) fun q hq => ?_
                obtain ⟨a, w⟩ := q
                obtain ⟨ha, ha2, ha3⟩ := hq
                simp only at ha ha2 ha3
                repeat (first | refine qa ?_ | refine qb ?_ | refine qc ?_ | refine qd ?_ | refine qe ?_ | refine qf ?_ | refine qg rfl ?_ | refine qh ?_ | refine qi ?_ | refine qj ?_ | refine qk ?_ | refine ql ?_ | refine qm ?_)
                by_cases g18a : (a : Int) < n'
                · refine hk_region fun K hK => runs_eval tab_ok ?_
                  simp only [ev0, evA, evB, evP, fl, gp, tab, simprocAttr, reduceCtorEq, reduceIte, decide_eq_true g18a]
                  refine fin_run ?_ (hK _ ?_) <;> clear hK <;> clear K
                  · (first | exact trivial | omega | (simp only [In64] at *; omega) | (simp [In64] at *; omega) | (simp_all; done) | skip)
                  repeat (first | refine qa ?_ | refine qb ?_ | refine qc ?_ | refine qd ?_ | refine qe ?_ | refine qf ?_ | refine qg rfl ?_ | refine qh ?_ | refine qi ?_ | refine qj ?_ | refine qk ?_ | refine ql ?_ | refine qm ?_)
                  refine hk_cond rfl (fun hC7 => ?_) (fun hC7 => ?_)
                  · (try simp only [nhs] at hC7)
                    repeat (first | refine qa ?_ | refine qb ?_ | refine qc ?_ | refine qd ?_ | refine qe ?_ | refine qf ?_ | refine qg rfl ?_ | refine qh ?_ | refine qi ?_ | refine qj ?_ | refine qk ?_ | refine ql ?_ | refine qm ?_)
                    have hal : a < n' := by omega
                    obtain ⟨hw0, hma⟩ := ha2 hC7
                    subst hw0
                    refine hk_region fun K hK => runs_eval tab_ok ?_
                    simp only [ev0, evA, evB, evP, fl, gp, tab, simprocAttr, reduceCtorEq, reduceIte]
                    refine fin_run trivial (hK _ ?_) <;> clear hK <;> clear K
                    repeat (first | refine qa ?_ | refine qb ?_ | refine qc ?_ | refine qd ?_ | refine qe ?_ | refine qf ?_ | refine qg rfl ?_ | refine qh ?_ | refine qi ?_ | refine qj ?_ | refine qk ?_ | refine ql ?_ | refine qm ?_)
                    refine hk_loop (ι := Nat × (Int × Int)) (fun q => ⟨215, [(2, .p (.list (ll ls))), (3, .ptr 0 0), (4, .ptr 1 0), (7, .ptr 2 0), (8, .ptr 3 0), (9, .ptr 4 0), (12, .p (.int .i64 a)), (13, .p (.int .i64 q.1))], [.own [.p (.int .i64 n), .p (.list (il m))], .own [.p (.int .i64 n'), .p (.list (il m'))], .own [.p (.int .i64 0), .p (.list (il []))], .own [.p (.int .i64 F.1), .p (.int .i64 F.2)], .own [.p (.int .i64 q.2.1), .p (.int .i64 q.2.2)]]⟩) (fun q => q.1 ≤ n' ∧ (q.2.1 = 0 → q.2 = (0, 0) ∧ ∀ y, y < q.1 → ls.getD (op m' n' a y) [] = cmpl (ls.getD y []) (ls.getD a [])) ∧ (¬ q.2.1 = 0 → q.2 = (7, (a : Int)) ∧ ¬ mgd m' n' ls a)) (fun q => n' - q.1) (0, (0, 0)) ⟨Nat.zero_le _, fun _ => ⟨rfl, fun j hj => by simp only at hj; omega⟩, fun hh => absurd rfl hh⟩ [0, 1, 2, 3, 4] (by simp only [leq, leA, ev0, evA, evB, evP, fl, gp, tab, simprocAttr, reduceCtorEq, reduceIte] <;> trivial) fun q hq => ?_
                    obtain ⟨b, v⟩ := q
                    obtain ⟨hb, hb2, hb3⟩ := hq
                    simp only at hb hb2 hb3
                    repeat (first | refine qa ?_ | refine qb ?_ | refine qc ?_ | refine qd ?_ | refine qe ?_ | refine qf ?_ | refine qg rfl ?_ | refine qh ?_ | refine qi ?_ | refine qj ?_ | refine qk ?_ | refine ql ?_ | refine qm ?_)
                    by_cases g21a : (b : Int) < n'
                    · refine hk_region fun K hK => runs_eval tab_ok ?_
                      simp only [ev0, evA, evB, evP, fl, gp, tab, simprocAttr, reduceCtorEq, reduceIte, decide_eq_true g21a]
                      refine fin_run ?_ (hK _ ?_) <;> clear hK <;> clear K
                      · (first | exact trivial | omega | (simp only [In64] at *; omega) | (simp [In64] at *; omega) | (simp_all; done) | skip)
                      repeat (first | refine qa ?_ | refine qb ?_ | refine qc ?_ | refine qd ?_ | refine qe ?_ | refine qf ?_ | refine qg rfl ?_ | refine qh ?_ | refine qi ?_ | refine qj ?_ | refine qk ?_ | refine ql ?_ | refine qm ?_)
                      refine hk_cond rfl (fun hC8 => ?_) (fun hC8 => ?_)
                      · (try simp only [nhs] at hC8)
                        repeat (first | refine qa ?_ | refine qb ?_ | refine qc ?_ | refine qd ?_ | refine qe ?_ | refine qf ?_ | refine qg rfl ?_ | refine qh ?_ | refine qi ?_ | refine qj ?_ | refine qk ?_ | refine ql ?_ | refine qm ?_)
                        have hbl : b < n' := by omega
                        have hab := G'.cl a b hal hbl
                        have r1 := (hrow _ hab).1
                        have r2 := (hrow a hal).1
                        have r3 := (hrow b hbl).1
                        obtain ⟨hv0, hmb⟩ := hb2 hC8
                        subst hv0
                        refine hk_draw mixed (by kernel_rfl) fun K hK => runs_eval tab_ok ?_
                        simp only [ev0, evA, evB, evP, fl, gp, tab, simprocAttr, reduceCtorEq, reduceIte, ll_length, ll_get (show op m' n' a b < ls.length by omega), ll_get (show a < ls.length by omega), ll_get (show b < ls.length by omega)]
                        refine fin_stop ?_ (runs_call (m_c T' hal hbl) rfl rfl rfl (by simp only [dstOk, Nat.reduceLT]) (by repeat (first | exact trivial | constructor)) (runs_eval tab_ok ?_))
                        · (first | exact trivial | omega | (simp only [In64] at *; omega) | (simp [In64] at *; omega) | (simp_all; done) | skip)
                        simp only [ev0, evA, evB, evP, fl, gp, tab, simprocAttr, reduceCtorEq, reduceIte, ll_length, ll_get (show op m' n' a b < ls.length by omega), ll_get (show a < ls.length by omega), ll_get (show b < ls.length by omega)]
                        refine fin_stop ?_ (runs_call (thenR_c (ls.getD b []) (ls.getD a []) (fun x hx => by have := hrng b hbl x hx; omega) (by omega) (by omega)) rfl rfl rfl (by simp only [dstOk, Nat.reduceLT]) (by repeat (first | exact trivial | constructor)) (runs_eval tab_ok ?_))
                        · (first | exact trivial | omega | (simp only [In64] at *; omega) | (simp [In64] at *; omega) | (simp_all; done) | skip)
                        simp only [ev0, evA, evB, evP, fl, gp, tab, simprocAttr, reduceCtorEq, reduceIte, ll_length, ll_get (show op m' n' a b < ls.length by omega), ll_get (show a < ls.length by omega), ll_get (show b < ls.length by omega)]
                        refine fin_stop ?_ (runs_call (ints_c (ls.getD (op m' n' a b) []) (cmpl (ls.getD b []) (ls.getD a [])) (by omega)) rfl rfl rfl (by simp only [dstOk, Nat.reduceLT]) (by repeat (first | exact trivial | constructor)) (runs_eval tab_ok ?_))
                        · (first | exact trivial | omega | (simp only [In64] at *; omega) | (simp [In64] at *; omega) | (simp_all; done) | skip)
                        simp only [ev0, evA, evB, evP, fl, gp, tab, simprocAttr, reduceCtorEq, reduceIte, ll_length, ll_get (show op m' n' a b < ls.length by omega), ll_get (show a < ls.length by omega), ll_get (show b < ls.length by omega)]
                        refine fin_run ?_ (hK _ ?_) <;> clear hK <;> clear K
                        · (first | exact trivial | omega | (simp only [In64] at *; omega) | (simp [In64] at *; omega) | (simp_all; done) | skip)
                        repeat (first | refine qa ?_ | refine qb ?_ | refine qc ?_ | refine qd ?_ | refine qe ?_ | refine qf ?_ | refine qg rfl ?_ | refine qh ?_ | refine qi ?_ | refine qj ?_ | refine qk ?_ | refine ql ?_ | refine qm ?_)
                        refine hk_cond rfl (fun hC9 => ?_) (fun hC9 => ?_)
                        · (try simp only [nhs] at hC9)
                          repeat (first | refine qa ?_ | refine qb ?_ | refine qc ?_ | refine qd ?_ | refine qe ?_ | refine qf ?_ | refine qg rfl ?_ | refine qh ?_ | refine qi ?_ | refine qj ?_ | refine qk ?_ | refine ql ?_ | refine qm ?_)
                          refine hk_region fun K hK => runs_eval tab_ok ?_
                          simp only [ev0, evA, evB, evP, fl, gp, tab, simprocAttr, reduceCtorEq, reduceIte]
                          refine fin_stop trivial (runs_call (f_c 7 a) rfl rfl rfl (by simp only [dstOk, Nat.reduceLT]) (by repeat (first | exact trivial | constructor)) (runs_eval tab_ok ?_))
                          simp only [ev0, evA, evB, evP, fl, gp, tab, simprocAttr, reduceCtorEq, reduceIte]
                          refine fin_run ?_ (hK _ ?_) <;> clear hK <;> clear K
                          · (first | exact trivial | omega | (simp only [In64] at *; omega) | (simp [In64] at *; omega) | (simp_all; done) | skip)
                          repeat (first | refine qa ?_ | refine qb ?_ | refine qc ?_ | refine qd ?_ | refine qe ?_ | refine qf ?_ | refine qg rfl ?_ | refine qh ?_ | refine qi ?_ | refine qj ?_ | refine qk ?_ | refine ql ?_ | refine qm ?_)
                          refine hk_region fun K hK => runs_eval tab_ok ?_
                          simp only [ev0, evA, evB, evP, fl, gp, tab, simprocAttr, reduceCtorEq, reduceIte]
                          refine fin_run ?_ (hK _ ?_) <;> clear hK <;> clear K
                          · (first | exact trivial | omega | (simp only [In64] at *; omega) | (simp [In64] at *; omega) | (simp_all; done) | skip)
                          repeat (first | refine qa ?_ | refine qb ?_ | refine qc ?_ | refine qd ?_ | refine qe ?_ | refine qf ?_ | refine qg rfl ?_ | refine qh ?_ | refine qi ?_ | refine qj ?_ | refine qk ?_ | refine ql ?_ | refine qm ?_)
                          refine ⟨(b + 1, (7, (a : Int))), [0, 1, 2, 3, 4], ⟨by simp only; omega, fun hh => by simp at hh, fun _ => ⟨rfl, fun hm => ?_⟩⟩, by simp only; omega, ?_⟩
                          · exact (by simpa using hC9 : ¬ (ls.getD (op m' n' a b) []) = cmpl (ls.getD b []) (ls.getD a [])) (hm b hbl)
                          · simp only [leq, leA, ev0, evA, evB, evP, fl, gp, tab, simprocAttr, reduceCtorEq, reduceIte] <;> first | trivial | omega
                        · (try simp only [nhs] at hC9)
                          repeat (first | refine qa ?_ | refine qb ?_ | refine qc ?_ | refine qd ?_ | refine qe ?_ | refine qf ?_ | refine qg rfl ?_ | refine qh ?_ | refine qi ?_ | refine qj ?_ | refine qk ?_ | refine ql ?_ | refine qm ?_)
                          refine hk_region fun K hK => runs_eval tab_ok ?_
                          simp only [ev0, evA, evB, evP, fl, gp, tab, simprocAttr, reduceCtorEq, reduceIte]
                          refine fin_run ?_ (hK _ ?_) <;> clear hK <;> clear K
                          · (first | exact trivial | omega | (simp only [In64] at *; omega) | (simp [In64] at *; omega) | (simp_all; done) | skip)
                          repeat (first | refine qa ?_ | refine qb ?_ | refine qc ?_ | refine qd ?_ | refine qe ?_ | refine qf ?_ | refine qg rfl ?_ | refine qh ?_ | refine qi ?_ | refine qj ?_ | refine qk ?_ | refine ql ?_ | refine qm ?_)
                          refine ⟨(b + 1, (0, 0)), [0, 1, 2, 3, 4], ⟨by simp only; omega, fun _ => ⟨rfl, fun y hy => ?_⟩, fun hh => absurd rfl hh⟩, by simp only; omega, ?_⟩
                          · by_cases hyb : y = b
                            · rw [hyb]; simpa using hC9
                            · exact hmb y (by simp only at hy; omega)
                          · simp only [leq, leA, ev0, evA, evB, evP, fl, gp, tab, simprocAttr, reduceCtorEq, reduceIte] <;> first | trivial | omega
                      · (try simp only [nhs] at hC8)
                        repeat (first | refine qa ?_ | refine qb ?_ | refine qc ?_ | refine qd ?_ | refine qe ?_ | refine qf ?_ | refine qg rfl ?_ | refine qh ?_ | refine qi ?_ | refine qj ?_ | refine qk ?_ | refine ql ?_ | refine qm ?_)
                        refine hk_region fun K hK => runs_eval tab_ok ?_
                        simp only [ev0, evA, evB, evP, fl, gp, tab, simprocAttr, reduceCtorEq, reduceIte]
                        refine fin_run ?_ (hK _ ?_) <;> clear hK <;> clear K
                        · (first | exact trivial | omega | (simp only [In64] at *; omega) | (simp [In64] at *; omega) | (simp_all; done) | skip)
                        repeat (first | refine qa ?_ | refine qb ?_ | refine qc ?_ | refine qd ?_ | refine qe ?_ | refine qf ?_ | refine qg rfl ?_ | refine qh ?_ | refine qi ?_ | refine qj ?_ | refine qk ?_ | refine ql ?_ | refine qm ?_)
                        obtain ⟨hv1, hv2⟩ := hb3 hC8
                        subst hv1
                        refine ⟨(a + 1, (7, (a : Int))), [0, 1, 2, 3, 4], ⟨by simp only; omega, fun hh => by simp at hh, fun _ => ?_⟩, by simp only; omega, ?_⟩
                        · rw [hw2u a hal hv2 hma]
                        · simp only [leq, leA, ev0, evA, evB, evP, fl, gp, tab, simprocAttr, reduceCtorEq, reduceIte] <;> first | trivial | omega
                    · refine hk_region fun K hK => runs_eval tab_ok ?_
                      simp only [ev0, evA, evB, evP, fl, gp, tab, simprocAttr, reduceCtorEq, reduceIte, decide_eq_false g21a]
                      refine fin_run ?_ (hK _ ?_) <;> clear hK <;> clear K
                      · (first | exact trivial | omega | (simp only [In64] at *; omega) | (simp [In64] at *; omega) | (simp_all; done) | skip)
                      repeat (first | refine qa ?_ | refine qb ?_ | refine qc ?_ | refine qd ?_ | refine qe ?_ | refine qf ?_ | refine qg rfl ?_ | refine qh ?_ | refine qi ?_ | refine qj ?_ | refine qk ?_ | refine ql ?_ | refine qm ?_)
                      refine hk_cond rfl (fun hC8 => ?_) (fun hC8 => ?_)
                      · cases hC8
                      · repeat (first | refine qa ?_ | refine qb ?_ | refine qc ?_ | refine qd ?_ | refine qe ?_ | refine qf ?_ | refine qg rfl ?_ | refine qh ?_ | refine qi ?_ | refine qj ?_ | refine qk ?_ | refine ql ?_ | refine qm ?_)
                        refine hk_region fun K hK => runs_eval tab_ok ?_
                        simp only [ev0, evA, evB, evP, fl, gp, tab, simprocAttr, reduceCtorEq, reduceIte]
                        refine fin_run ?_ (hK _ ?_) <;> clear hK <;> clear K
                        · (first | exact trivial | omega | (simp only [In64] at *; omega) | (simp [In64] at *; omega) | (simp_all; done) | skip)
                        repeat (first | refine qa ?_ | refine qb ?_ | refine qc ?_ | refine qd ?_ | refine qe ?_ | refine qf ?_ | refine qg rfl ?_ | refine qh ?_ | refine qi ?_ | refine qj ?_ | refine qk ?_ | refine ql ?_ | refine qm ?_)
                        refine ⟨(a + 1, v), [0, 1, 2, 3, 4], ⟨by simp only; omega, fun hh => ?_, fun hh => ?_⟩, by simp only; omega, ?_⟩
                        · obtain ⟨h1, h2⟩ := hb2 hh
                          refine ⟨h1, fun j hj => ?_⟩
                          by_cases hja : j = a
                          · rw [hja]; exact fun y hy => h2 y (by omega)
                          · exact hma j (by simp only at hj; omega)
                        · obtain ⟨h1, h2⟩ := hb3 hh
                          rw [hw2u a hal h2 hma]; exact h1
                        · simp only [leq, leA, ev0, evA, evB, evP, fl, gp, tab, simprocAttr, reduceCtorEq, reduceIte] <;> first | trivial | omega
                  · (try simp only [nhs] at hC7)
                    repeat (first | refine qa ?_ | refine qb ?_ | refine qc ?_ | refine qd ?_ | refine qe ?_ | refine qf ?_ | refine qg rfl ?_ | refine qh ?_ | refine qi ?_ | refine qj ?_ | refine qk ?_ | refine ql ?_ | refine qm ?_)
                    have hww := ha3 hC7
                    subst hww
                    refine ⟨rfl, [0, 1, 2, 3, 4], ?_⟩
                    simp only [leq, leA, ev0, evA, evB, evP, fl, gp, tab, simprocAttr, reduceCtorEq, reduceIte] <;> first | trivial | omega
                · refine hk_region fun K hK => runs_eval tab_ok ?_
                  simp only [ev0, evA, evB, evP, fl, gp, tab, simprocAttr, reduceCtorEq, reduceIte, decide_eq_false g18a]
                  refine fin_run ?_ (hK _ ?_) <;> clear hK <;> clear K
                  · (first | exact trivial | omega | (simp only [In64] at *; omega) | (simp [In64] at *; omega) | (simp_all; done) | skip)
                  repeat (first | refine qa ?_ | refine qb ?_ | refine qc ?_ | refine qd ?_ | refine qe ?_ | refine qf ?_ | refine qg rfl ?_ | refine qh ?_ | refine qi ?_ | refine qj ?_ | refine qk ?_ | refine ql ?_ | refine qm ?_)
                  refine hk_cond rfl (fun hC7 => ?_) (fun hC7 => ?_)
                  · cases hC7
                  · repeat (first | refine qa ?_ | refine qb ?_ | refine qc ?_ | refine qd ?_ | refine qe ?_ | refine qf ?_ | refine qg rfl ?_ | refine qh ?_ | refine qi ?_ | refine qj ?_ | refine qk ?_ | refine ql ?_ | refine qm ?_)
                    have hww : w = w2 := by
                      by_cases hz : w.1 = 0
                      · obtain ⟨h1, h2⟩ := ha2 hz
                        rcases hW2 with ⟨_, h3⟩ | ⟨k, k1, k2, _⟩
                        · rw [h1, h3]
                        · exact absurd (h2 k (by omega)) k2
                      · exact ha3 hz
                    subst hww
                    refine ⟨rfl, [0, 1, 2, 3, 4], ?_⟩
                    simp only [leq, leA, ev0, evA, evB, evP, fl, gp, tab, simprocAttr, reduceCtorEq, reduceIte] <;> first | trivial | omega
              · repeat (first | refine qa ?_ | refine qb ?_ | refine qc ?_ | refine qd ?_ | refine qe ?_ | refine qf ?_ | refine qg rfl ?_ | refine qh ?_ | refine qi ?_ | refine qj ?_ | refine qk ?_ | refine ql ?_ | refine qm ?_)
                rcases hW2 with ⟨hm2, hw2⟩ | ⟨a, a1, a2, a3, a4⟩
                · subst hw2
                  rw [psf2_n hm2] at hF2
                  have hbig : n * n' > 60 := Classical.byContradiction fun hc => by
                    rw [if_neg hc] at hF2
                    rw [hF2] at hps
                    exact hps rfl
                  rw [if_pos hbig] at hF2
                  refine hk_region fun K hK => runs_eval tab_ok ?_
                  simp only [ev0, evA, evB, evP, fl, gp, tab, simprocAttr, reduceCtorEq, reduceIte, hmul]
                  refine fin_run ?_ (hK _ ?_) <;> clear hK <;> clear K
                  · simp only [In64]; omega
                  repeat (first | refine qa ?_ | refine qb ?_ | refine qc ?_ | refine qd ?_ | refine qe ?_ | refine qf ?_ | refine qg rfl ?_ | refine qh ?_ | refine qi ?_ | refine qj ?_ | refine qk ?_ | refine ql ?_ | refine qm ?_)
                  refine hk_cond rfl (fun hC10 => ?_) (fun hC10 => ?_)
                  · (try simp only [nhs] at hC10)
                    repeat (first | refine qa ?_ | refine qb ?_ | refine qc ?_ | refine qd ?_ | refine qe ?_ | refine qf ?_ | refine qg rfl ?_ | refine qh ?_ | refine qi ?_ | refine qj ?_ | refine qk ?_ | refine ql ?_ | refine qm ?_)
                    refine hk_region fun K hK => runs_eval tab_ok ?_
                    simp only [ev0, evA, evB, evP, fl, gp, tab, simprocAttr, reduceCtorEq, reduceIte]
                    refine fin_stop trivial (runs_call (f_c 9 0) rfl rfl rfl (by simp only [dstOk, Nat.reduceLT]) (by repeat (first | exact trivial | constructor)) (runs_eval tab_ok ?_))
                    simp only [ev0, evA, evB, evP, fl, gp, tab, simprocAttr, reduceCtorEq, reduceIte]
                    refine fin_run ?_ (hK _ ?_) <;> clear hK <;> clear K
                    · (first | exact trivial | omega | (simp only [In64] at *; omega) | (simp [In64] at *; omega) | (simp_all; done) | skip)
                    repeat (first | refine qa ?_ | refine qb ?_ | refine qc ?_ | refine qd ?_ | refine qe ?_ | refine qf ?_ | refine qg rfl ?_ | refine qh ?_ | refine qi ?_ | refine qj ?_ | refine qk ?_ | refine ql ?_ | refine qm ?_)
                    subst hF2
                    refine hk_region fun K hK => runs_eval tab_ok ?_
                    simp only [ev0, evA, evB, evP, fl, gp, tab, simprocAttr, reduceCtorEq, reduceIte, bne_self_eq_false]
                    refine fin_run ?_ (hK _ ?_) <;> clear hK <;> clear K
                    · (first | exact trivial | omega | (simp only [In64] at *; omega) | (simp [In64] at *; omega) | (simp_all; done) | skip)
                    repeat (first | refine qa ?_ | refine qb ?_ | refine qc ?_ | refine qd ?_ | refine qe ?_ | refine qf ?_ | refine qg rfl ?_ | refine qh ?_ | refine qi ?_ | refine qj ?_ | refine qk ?_ | refine ql ?_ | refine qm ?_)
                    refine hk_cond rfl (fun hC11 => ?_) (fun hC11 => ?_)
                    · cases hC11
                    · (try simp only [nhs] at hC11)
                      repeat (first | refine qa ?_ | refine qb ?_ | refine qc ?_ | refine qd ?_ | refine qe ?_ | refine qf ?_ | refine qg rfl ?_ | refine qh ?_ | refine qi ?_ | refine qj ?_ | refine qk ?_ | refine ql ?_ | refine qm ?_)
                      refine hk_region fun K hK => runs_eval tab_ok ?_
                      simp only [ev0, evA, evB, evP, fl, gp, tab, simprocAttr, reduceCtorEq, reduceIte]
                      refine fin_run ?_ (hK _ ?_) <;> clear hK <;> clear K
                      · (first | exact trivial | omega | (simp only [In64] at *; omega) | (simp [In64] at *; omega) | (simp_all; done) | skip)
                      repeat (first | refine qa ?_ | refine qb ?_ | refine qc ?_ | refine qd ?_ | refine qe ?_ | refine qf ?_ | refine qg rfl ?_ | refine qh ?_ | refine qi ?_ | refine qj ?_ | refine qk ?_ | refine ql ?_ | refine qm ?_)
                      refine hk_cond rfl (fun hC12 => ?_) (fun hC12 => ?_)
                      · (try simp only [nhs] at hC12)
                        repeat (first | refine qa ?_ | refine qb ?_ | refine qc ?_ | refine qd ?_ | refine qe ?_ | refine qf ?_ | refine qg rfl ?_ | refine qh ?_ | refine qi ?_ | refine qj ?_ | refine qk ?_ | refine ql ?_ | refine qm ?_)
                        refine hk_region fun K hK => runs_eval tab_ok ?_
                        simp only [ev0, evA, evB, evP, fl, gp, tab, simprocAttr, reduceCtorEq, reduceIte]
                        refine fin_stop trivial (runs_call (noGroup_c 0 []) rfl rfl rfl (by simp only [dstOk, Nat.reduceLT]) (by repeat (first | exact trivial | constructor)) (runs_eval tab_ok ?_))
                        simp only [ev0, evA, evB, evP, fl, gp, tab, simprocAttr, reduceCtorEq, reduceIte]
                        refine fin_run ?_ (hK _ ?_) <;> clear hK <;> clear K
                        · (first | exact trivial | omega | (simp only [In64] at *; omega) | (simp [In64] at *; omega) | (simp_all; done) | skip)
                        repeat (first | refine qa ?_ | refine qb ?_ | refine qc ?_ | refine qd ?_ | refine qe ?_ | refine qf ?_ | refine qg rfl ?_ | refine qh ?_ | refine qi ?_ | refine qj ?_ | refine qk ?_ | refine ql ?_ | refine qm ?_)
                        simp only [Try.results3, enA, ev0, evA, evB, evP, fl, gp, tab, simprocAttr, reduceCtorEq, reduceIte]
                        all_goals (rfl)
                      · cases hC12
                  · (try simp only [nhs] at hC10)
                    omega
                · rw [psf2_7 a1 a2 a3, ← a4] at hF2
                  rw [← hF2]
                  refine hk_region fun K hK => runs_eval tab_ok ?_
                  simp only [ev0, evA, evB, evP, fl, gp, tab, simprocAttr, reduceCtorEq, reduceIte, decide_eq_false hps]
                  refine fin_run ?_ (hK _ ?_) <;> clear hK <;> clear K
                  · (first | exact trivial | omega | (simp only [In64] at *; omega) | (simp [In64] at *; omega) | (simp_all; done) | skip)
                  repeat (first | refine qa ?_ | refine qb ?_ | refine qc ?_ | refine qd ?_ | refine qe ?_ | refine qf ?_ | refine qg rfl ?_ | refine qh ?_ | refine qi ?_ | refine qj ?_ | refine qk ?_ | refine ql ?_ | refine qm ?_)
                  refine hk_cond rfl (fun hC10 => ?_) (fun hC10 => ?_)
                  · cases hC10
                  · repeat (first | refine qa ?_ | refine qb ?_ | refine qc ?_ | refine qd ?_ | refine qe ?_ | refine qf ?_ | refine qg rfl ?_ | refine qh ?_ | refine qi ?_ | refine qj ?_ | refine qk ?_ | refine ql ?_ | refine qm ?_)
                    refine hk_region fun K hK => runs_eval tab_ok ?_
                    simp only [ev0, evA, evB, evP, fl, gp, tab, simprocAttr, reduceCtorEq, reduceIte, bne_self_eq_false]
                    refine fin_run ?_ (hK _ ?_) <;> clear hK <;> clear K
                    · (first | exact trivial | omega | (simp only [In64] at *; omega) | (simp [In64] at *; omega) | (simp_all; done) | skip)
                    repeat (first | refine qa ?_ | refine qb ?_ | refine qc ?_ | refine qd ?_ | refine qe ?_ | refine qf ?_ | refine qg rfl ?_ | refine qh ?_ | refine qi ?_ | refine qj ?_ | refine qk ?_ | refine ql ?_ | refine qm ?_)
                    refine hk_cond rfl (fun hC11 => ?_) (fun hC11 => ?_)
                    · cases hC11
                    · (try simp only [nhs] at hC11)
                      repeat (first | refine qa ?_ | refine qb ?_ | refine qc ?_ | refine qd ?_ | refine qe ?_ | refine qf ?_ | refine qg rfl ?_ | refine qh ?_ | refine qi ?_ | refine qj ?_ | refine qk ?_ | refine ql ?_ | refine qm ?_)
                      refine hk_region fun K hK => runs_eval tab_ok ?_
                      simp only [ev0, evA, evB, evP, fl, gp, tab, simprocAttr, reduceCtorEq, reduceIte, decide_eq_false hps]
                      refine fin_run ?_ (hK _ ?_) <;> clear hK <;> clear K
                      · (first | exact trivial | omega | (simp only [In64] at *; omega) | (simp [In64] at *; omega) | (simp_all; done) | skip)
                      repeat (first | refine qa ?_ | refine qb ?_ | refine qc ?_ | refine qd ?_ | refine qe ?_ | refine qf ?_ | refine qg rfl ?_ | refine qh ?_ | refine qi ?_ | refine qj ?_ | refine qk ?_ | refine ql ?_ | refine qm ?_)
                      refine hk_cond rfl (fun hC12 => ?_) (fun hC12 => ?_)
                      · (try simp only [nhs] at hC12)
                        repeat (first | refine qa ?_ | refine qb ?_ | refine qc ?_ | refine qd ?_ | refine qe ?_ | refine qf ?_ | refine qg rfl ?_ | refine qh ?_ | refine qi ?_ | refine qj ?_ | refine qk ?_ | refine ql ?_ | refine qm ?_)
                        refine hk_region fun K hK => runs_eval tab_ok ?_
                        simp only [ev0, evA, evB, evP, fl, gp, tab, simprocAttr, reduceCtorEq, reduceIte]
                        refine fin_stop trivial (runs_call (noGroup_c 0 []) rfl rfl rfl (by simp only [dstOk, Nat.reduceLT]) (by repeat (first | exact trivial | constructor)) (runs_eval tab_ok ?_))
                        simp only [ev0, evA, evB, evP, fl, gp, tab, simprocAttr, reduceCtorEq, reduceIte]
                        refine fin_run ?_ (hK _ ?_) <;> clear hK <;> clear K
                        · (first | exact trivial | omega | (simp only [In64] at *; omega) | (simp [In64] at *; omega) | (simp_all; done) | skip)
                        repeat (first | refine qa ?_ | refine qb ?_ | refine qc ?_ | refine qd ?_ | refine qe ?_ | refine qf ?_ | refine qg rfl ?_ | refine qh ?_ | refine qi ?_ | refine qj ?_ | refine qk ?_ | refine ql ?_ | refine qm ?_)
                        simp only [Try.results3, enA, ev0, evA, evB, evP, fl, gp, tab, simprocAttr, reduceCtorEq, reduceIte]
                        all_goals (rfl)
                      · cases hC12
            · have hF2 := psf_row (m' := m') z hlI (by omega) i2 i3
              rw [hFd, ← i4] at hF2
              rw [← hF2]
              refine hk_region fun K hK => runs_eval tab_ok ?_
              simp only [ev0, evA, evB, evP, fl, gp, tab, simprocAttr, reduceCtorEq, reduceIte]
              refine fin_run trivial (hK _ ?_) <;> clear hK <;> clear K
              repeat (first | refine qa ?_ | refine qb ?_ | refine qc ?_ | refine qd ?_ | refine qe ?_ | refine qf ?_ | refine qg rfl ?_ | refine qh ?_ | refine qi ?_ | refine qj ?_ | refine qk ?_ | refine ql ?_ | refine qm ?_)
              refine hk_cutB (⟨215, [(2, .p (.list (ll ls))), (3, .ptr 0 0), (4, .ptr 1 0), (7, .ptr 2 0), (8, .ptr 3 0), (9, .ptr 4 0)], [.own [.p (.int .i64 n), .p (.list (il m))], .own [.p (.int .i64 n'), .p (.list (il m'))], .own [.p (.int .i64 0), .p (.list (il []))], .own [.p (.int .i64 F.1), .p (.int .i64 F.2)], .own [.p (.int .i64 F.1), .p (.int .i64 F.2)]]⟩) ?_ ?_
              · repeat (first | refine qa ?_ | refine qb ?_ | refine qc ?_ | refine qd ?_ | refine qe ?_ | refine qf ?_ | refine qg rfl ?_ | refine qh ?_ | refine qi ?_ | refine qj ?_ | refine qk ?_ | refine ql ?_ | refine qm ?_)
                refine hk_loop (ι := Nat) (fun a => ⟨215, [(2, .p (.list (ll ls))), (3, .ptr 0 0), (4, .ptr 1 0), (7, .ptr 2 0), (8, .ptr 3 0), (9, .ptr 4 0), (12, .p (.int .i64 0))], [.own [.p (.int .i64 n), .p (.list (il m))], .own [.p (.int .i64 n'), .p (.list (il m'))], .own [.p (.int .i64 0), .p (.list (il []))], .own [.p (.int .i64 F.1), .p (.int .i64 F.2)], .own [.p (.int .i64 F.1), .p (.int .i64 F.2)]]⟩) (fun a => a = 0) (fun a => 0) 0 rfl [0, 1, 2, 3, 4] (by simp only [leq, leA, ev0, evA, evB, evP, fl, gp, tab, simprocAttr, reduceCtorEq, reduceIte] <;> trivial) fun a ha => ?_
                repeat (first | refine qa ?_ | refine qb ?_ | refine qc ?_ | refine qd ?_ | refine qe ?_ | refine qf ?_ | refine qg rfl ?_ | refine qh ?_ | refine qi ?_ | refine qj ?_ | refine qk ?_ | refine ql ?_ | refine qm ?_)
                by_cases g18a : (0 : Int) < n'
                · refine hk_region fun K hK => runs_eval tab_ok ?_
                  simp only [ev0, evA, evB, evP, fl, gp, tab, simprocAttr, reduceCtorEq, reduceIte, decide_eq_false hps, decide_eq_true g18a]
                  refine fin_run ?_ (hK _ ?_) <;> clear hK <;> clear K
                  · (first | exact trivial | omega | (simp only [In64] at *; omega) | (simp [In64] at *; omega) | (simp_all; done) | skip)
                  repeat (first | refine qa ?_ | refine qb ?_ | refine qc ?_ | refine qd ?_ | refine qe ?_ | refine qf ?_ | refine qg rfl ?_ | refine qh ?_ | refine qi ?_ | refine qj ?_ | refine qk ?_ | refine ql ?_ | refine qm ?_)
                  refine hk_cond rfl (fun hC7 => ?_) (fun hC7 => ?_)
                  · cases hC7
                  · (try simp only [nhs] at hC7)
                    repeat (first | refine qa ?_ | refine qb ?_ | refine qc ?_ | refine qd ?_ | refine qe ?_ | refine qf ?_ | refine qg rfl ?_ | refine qh ?_ | refine qi ?_ | refine qj ?_ | refine qk ?_ | refine ql ?_ | refine qm ?_)
                    refine ⟨rfl, [0, 1, 2, 3, 4], ?_⟩
                    simp only [leq, leA, ev0, evA, evB, evP, fl, gp, tab, simprocAttr, reduceCtorEq, reduceIte] <;> first | trivial | omega
                · refine hk_region fun K hK => runs_eval tab_ok ?_
                  simp only [ev0, evA, evB, evP, fl, gp, tab, simprocAttr, reduceCtorEq, reduceIte, decide_eq_false hps, decide_eq_false g18a]
                  refine fin_run ?_ (hK _ ?_) <;> clear hK <;> clear K
                  · (first | exact trivial | omega | (simp only [In64] at *; omega) | (simp [In64] at *; omega) | (simp_all; done) | skip)
                  repeat (first | refine qa ?_ | refine qb ?_ | refine qc ?_ | refine qd ?_ | refine qe ?_ | refine qf ?_ | refine qg rfl ?_ | refine qh ?_ | refine qi ?_ | refine qj ?_ | refine qk ?_ | refine ql ?_ | refine qm ?_)
                  refine hk_cond rfl (fun hC7 => ?_) (fun hC7 => ?_)
                  · cases hC7
                  · repeat (first | refine qa ?_ | refine qb ?_ | refine qc ?_ | refine qd ?_ | refine qe ?_ | refine qf ?_ | refine qg rfl ?_ | refine qh ?_ | refine qi ?_ | refine qj ?_ | refine qk ?_ | refine ql ?_ | refine qm ?_)
                    refine ⟨rfl, [0, 1, 2, 3, 4], ?_⟩
                    simp only [leq, leA, ev0, evA, evB, evP, fl, gp, tab, simprocAttr, reduceCtorEq, reduceIte] <;> first | trivial | omega
              · repeat (first | refine qa ?_ | refine qb ?_ | refine qc ?_ | refine qd ?_ | refine qe ?_ | refine qf ?_ | refine qg rfl ?_ | refine qh ?_ | refine qi ?_ | refine qj ?_ | refine qk ?_ | refine ql ?_ | refine qm ?_)
                refine hk_region fun K hK => runs_eval tab_ok ?_
                simp only [ev0, evA, evB, evP, fl, gp, tab, simprocAttr, reduceCtorEq, reduceIte, decide_eq_false hps]
                refine fin_run ?_ (hK _ ?_) <;> clear hK <;> clear K
                · (first | exact trivial | omega | (simp only [In64] at *; omega) | (simp [In64] at *; omega) | (simp_all; done) | skip)
                repeat (first | refine qa ?_ | refine qb ?_ | refine qc ?_ | refine qd ?_ | refine qe ?_ | refine qf ?_ | refine qg rfl ?_ | refine qh ?_ | refine qi ?_ | refine qj ?_ | refine qk ?_ | refine ql ?_ | refine qm ?_)
                refine hk_cond rfl (fun hC10 => ?_) (fun hC10 => ?_)
                · cases hC10
                · repeat (first | refine qa ?_ | refine qb ?_ | refine qc ?_ | refine qd ?_ | refine qe ?_ | refine qf ?_ | refine qg rfl ?_ | refine qh ?_ | refine qi ?_ | refine qj ?_ | refine qk ?_ | refine ql ?_ | refine qm ?_)
                  refine hk_region fun K hK => runs_eval tab_ok ?_
                  simp only [ev0, evA, evB, evP, fl, gp, tab, simprocAttr, reduceCtorEq, reduceIte, bne_self_eq_false]
                  refine fin_run ?_ (hK _ ?_) <;> clear hK <;> clear K
                  · (first | exact trivial | omega | (simp only [In64] at *; omega) | (simp [In64] at *; omega) | (simp_all; done) | skip)
                  repeat (first | refine qa ?_ | refine qb ?_ | refine qc ?_ | refine qd ?_ | refine qe ?_ | refine qf ?_ | refine qg rfl ?_ | refine qh ?_ | refine qi ?_ | refine qj ?_ | refine qk ?_ | refine ql ?_ | refine qm ?_)
                  refine hk_cond rfl (fun hC11 => ?_) (fun hC11 => ?_)
                  · cases hC11
                  · (try simp only [nhs] at hC11)
                    repeat (first | refine qa ?_ | refine qb ?_ | refine qc ?_ | refine qd ?_ | refine qe ?_ | refine qf ?_ | refine qg rfl ?_ | refine qh ?_ | refine qi ?_ | refine qj ?_ | refine qk ?_ | refine ql ?_ | refine qm ?_)
                    refine hk_region fun K hK => runs_eval tab_ok ?_
                    simp only [ev0, evA, evB, evP, fl, gp, tab, simprocAttr, reduceCtorEq, reduceIte, decide_eq_false hps]
                    refine fin_run ?_ (hK _ ?_) <;> clear hK <;> clear K
                    · (first | exact trivial | omega | (simp only [In64] at *; omega) | (simp [In64] at *; omega) | (simp_all; done) | skip)
                    repeat (first | refine qa ?_ | refine qb ?_ | refine qc ?_ | refine qd ?_ | refine qe ?_ | refine qf ?_ | refine qg rfl ?_ | refine qh ?_ | refine qi ?_ | refine qj ?_ | refine qk ?_ | refine ql ?_ | refine qm ?_)
                    refine hk_cond rfl (fun hC12 => ?_) (fun hC12 => ?_)
                    · (try simp only [nhs] at hC12)
                      repeat (first | refine qa ?_ | refine qb ?_ | refine qc ?_ | refine qd ?_ | refine qe ?_ | refine qf ?_ | refine qg rfl ?_ | refine qh ?_ | refine qi ?_ | refine qj ?_ | refine qk ?_ | refine ql ?_ | refine qm ?_)
                      refine hk_region fun K hK => runs_eval tab_ok ?_
                      simp only [ev0, evA, evB, evP, fl, gp, tab, simprocAttr, reduceCtorEq, reduceIte]
                      refine fin_stop trivial (runs_call (noGroup_c 0 []) rfl rfl rfl (by simp only [dstOk, Nat.reduceLT]) (by repeat (first | exact trivial | constructor)) (runs_eval tab_ok ?_))
                      simp only [ev0, evA, evB, evP, fl, gp, tab, simprocAttr, reduceCtorEq, reduceIte]
                      refine fin_run ?_ (hK _ ?_) <;> clear hK <;> clear K
                      · (first | exact trivial | omega | (simp only [In64] at *; omega) | (simp [In64] at *; omega) | (simp_all; done) | skip)
                      repeat (first | refine qa ?_ | refine qb ?_ | refine qc ?_ | refine qd ?_ | refine qe ?_ | refine qf ?_ | refine qg rfl ?_ | refine qh ?_ | refine qi ?_ | refine qj ?_ | refine qk ?_ | refine ql ?_ | refine qm ?_)
                      simp only [Try.results3, enA, ev0, evA, evB, evP, fl, gp, tab, simprocAttr, reduceCtorEq, reduceIte]
                      all_goals (rfl)
                    · cases hC12
end Go.Proofs.Ytdibogabmbnmnaa
