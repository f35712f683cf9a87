/-
  Walks: the law SeriesGrow. Conditions: none.
-/
import Derived.Test.YtgnhcdpjmfoklaaDoorS11
import Derived.Test.YtgnhcdpjmfoklaaDoorG23
set_option linter.all false
namespace Go.Proofs.YtgnhcdpjmfoklaaDoor
open Go.Pv

theorem nilpotent_ok {n e : Nat} {m : List Int} (h : GT n m n e) (nx : (Nat → Bool) → Nat → Bool) (hnx : ∀ p a, a < n → (nx p a = true ↔ Gen n (op m n) e (dnp n (op m n) e p fun _ => true) a)) (Z : Nat) (hZ : Z ≤ n) (hS : Stp n (itr nx fun _ => true) Z) (b : Bool) (hbs : b = true ↔ (thl n (itr nx (fun _ => true) Z)).length = 1) :
    FnC Tryd.prog 30 [gp n m] (.tup [.bool b, fl (0, 0)]) := by
  have hb := h.2.1.big
  have hl := cht_len n (itr nx fun _ => true) Z
  have hg := cht_get (n := n) (T := itr nx fun _ => true) (Nat.le_refl Z)
  have h1 : ((cht n (itr nx fun _ => true) Z).length : Int) - 1 = ((Z : Nat) : Int) := by omega
  have hz : decide (((thl n (itr nx (fun _ => true) Z)).length : Int) = 1) = b := by rw [Bool.eq_iff_iff, decide_eq_true_eq, hbs]; omega
  have hlt : Z < (cht n (itr nx fun _ => true) Z).length := by omega
  refine fnc_of tab_ok Tryd.func30 rfl (by kernel_rfl) (by rw [Tryd.ntmps30]; exact Nat.le_add_left 1 _) ?_; rw [Tryd.ntmps30]
  refine qm ?_
  refine hk_region fun K hK => runs_eval tab_ok ?_
  simp only [ev0, evA, evB, evP, fl, gp, tab, simprocAttr, reduceCtorEq, reduceIte]
  refine fin_run ?_ (hK _ ?_) <;> clear hK <;> clear K
  · (first | exact trivial | omega | (simp only [In64] at *; omega) | (simp [In64] at *; omega) | (simp_all; done) | skip)
  refine qa (qm ?_)
  refine hk_region fun K hK => runs_eval tab_ok ?_
  simp only [ev0, evA, evB, evP, fl, gp, tab, simprocAttr, reduceCtorEq, reduceIte]
  refine fin_stop trivial (runs_call (lower_ok h nx hnx Z hZ hS) rfl rfl rfl (by simp only [dstOk, Nat.reduceLT]) (by repeat (first | exact trivial | constructor)) (runs_eval tab_ok ?_))
  simp only [ev0, evA, evB, evP, fl, gp, tab, simprocAttr, reduceCtorEq, reduceIte]
  refine fin_run ?_ (hK _ ?_) <;> clear hK <;> clear K
  · (first | exact trivial | omega | (simp only [In64] at *; omega) | (simp [In64] at *; omega) | (simp_all; done) | skip)
  refine qa (qm ?_)
  refine hk_draw mixed (by kernel_rfl) fun K hK => runs_eval tab_ok ?_
  simp only [ev0, evA, evB, evP, fl, gp, tab, simprocAttr, reduceCtorEq, reduceIte, ll_length, h1, ll_get hlt, hg, il_length, hz]
  refine fin_run ?_ (hK _ ?_) <;> clear hK <;> clear K
  · (first | exact trivial | omega | (simp only [In64] at *; omega) | (simp [In64] at *; omega) | (simp_all; done) | skip)
  refine qa (qk ?_)
  simp only [Tryd.results30, enA, ev0, evA, evB, evP, fl, gp, tab, simprocAttr, reduceCtorEq, reduceIte]
  all_goals ((first | exact rfl | exact ⟨rfl, rfl⟩ | exact ⟨rfl, rfl, rfl⟩ | exact ⟨trivial, rfl⟩ | exact ⟨Nat.le_refl _, rfl⟩ | trivial | (simp; done)))
theorem nilpotent_no (N : Int) (m : List Int) (hm : m.length ≤ 1000000000000000) (hf : ¬ (gf N m).1 = 0) : FnC Tryd.prog 30 [gp N m] (.tup [.bool false, fl (gf N m)]) := by
  refine fnc_of tab_ok Tryd.func30 rfl (by kernel_rfl) (by rw [Tryd.ntmps30]; exact Nat.le_add_left 1 _) ?_; rw [Tryd.ntmps30]
  refine qm ?_
  refine hk_region fun K hK => runs_eval tab_ok ?_
  simp only [ev0, evA, evB, evP, fl, gp, tab, simprocAttr, reduceCtorEq, reduceIte]
  refine fin_run ?_ (hK _ ?_) <;> clear hK <;> clear K
  · (first | exact trivial | omega | (simp only [In64] at *; omega) | (simp [In64] at *; omega) | (simp_all; done) | skip)
  refine qa (qm ?_)
  refine hk_region fun K hK => runs_eval tab_ok ?_
  simp only [ev0, evA, evB, evP, fl, gp, tab, simprocAttr, reduceCtorEq, reduceIte]
  refine fin_stop trivial (runs_call (lower_no N m hm hf) rfl rfl rfl (by simp only [dstOk, Nat.reduceLT]) (by repeat (first | exact trivial | constructor)) (runs_eval tab_ok ?_))
  simp only [ev0, evA, evB, evP, fl, gp, tab, simprocAttr, reduceCtorEq, reduceIte]
  refine fin_run ?_ (hK _ ?_) <;> clear hK <;> clear K
  · (first | exact trivial | omega | (simp only [In64] at *; omega) | (simp [In64] at *; omega) | (simp_all; done) | skip)
  refine qa (qm ?_)
  refine hk_draw mixed (by kernel_rfl) fun K hK => runs_eval tab_ok ?_
  simp only [ev0, evA, evB, evP, fl, gp, tab, simprocAttr, reduceCtorEq, reduceIte, decide_eq_false hf]
  refine fin_run ?_ (hK _ ?_) <;> clear hK <;> clear K
  · (first | exact trivial | omega | (simp only [In64] at *; omega) | (simp [In64] at *; omega) | (simp_all; done) | skip)
  refine qa (qk ?_)
  simp only [Tryd.results30, enA, ev0, evA, evB, evP, fl, gp, tab, simprocAttr, reduceCtorEq, reduceIte]
  all_goals ((first | exact rfl | exact ⟨rfl, rfl⟩ | exact ⟨rfl, rfl, rfl⟩ | exact ⟨trivial, rfl⟩ | exact ⟨Nat.le_refl _, rfl⟩ | trivial | (simp; done)))
theorem cent_zen' (m : List Int) (n a : Nat) : cent m n (fun _ => true) a = zen n (op m n) a := by
  rw [Bool.eq_iff_iff, zen_iff]
  unfold cent
  rw [decide_eq_true_eq]
  exact ⟨fun h b hb => h b hb rfl, fun h b hb _ => h b hb⟩

set_option maxRecDepth 20000 in
set_option maxHeartbeats 4000000 in
theorem seriesGrow_c (N : Int) (m l : List Int) (hm : m.length ≤ 17592186043904) (hl : l.length ≤ 17592186043904) : FnC Tryd.prog 7 [gp N m, .list (il l)] (.bool true) := by
  refine fnc_of tab_ok Tryd.func7 rfl (by kernel_rfl) (by rw [Tryd.ntmps7]; exact Nat.le_add_left 2 _) ?_; rw [Tryd.ntmps7]
  refine qm ?_
  refine hk_region fun K hK => runs_eval tab_ok ?_
  simp only [ev0, evA, evB, evP, fl, gp, tab, simprocAttr, reduceCtorEq, reduceIte]
  refine fin_run ?_ (hK _ ?_) <;> clear hK <;> clear K
  · (first | exact trivial | omega | (simp only [In64] at *; omega) | (simp [In64] at *; omega) | (simp_all; done) | skip)
  refine qa (qm (qm ?_))
  refine hk_region fun K hK => runs_eval tab_ok ?_
  simp only [ev0, evA, evB, evP, fl, gp, tab, simprocAttr, reduceCtorEq, reduceIte]
  refine fin_stop trivial (runs_call (seriesBegun_c) rfl rfl rfl (by simp only [dstOk, Nat.reduceLT]) (by repeat (first | exact trivial | constructor)) (runs_eval tab_ok ?_))
  simp only [ev0, evA, evB, evP, fl, gp, tab, simprocAttr, reduceCtorEq, reduceIte]
  refine fin_run trivial (hK _ ?_) <;> clear hK <;> clear K
  refine qa ?_
  refine hk_cond rfl (fun hC1 => ?_) (fun hC1 => ?_)
  · cases hC1
  · (try simp only [nhs] at hC1)
    refine qh (qa (qm ?_))
    by_cases hg : (gf N m).1 = 0
    · obtain ⟨n, e, h, heI⟩ := gf_ok hg
      obtain rfl := h.1
      have G := h.2.2
      have hb := h.2.1.big
      obtain ⟨nl, hnl⟩ := nx_ex n (op m n) e fun p => dnp n (op m n) e p fun _ => true
      obtain ⟨Z, hZ, hS⟩ := G.fall_stop hnl G.da_nml G.da_le
      obtain ⟨bn, hbn⟩ := truth ((thl n (itr nl (fun _ => true) Z)).length = 1)
      refine hk_region fun K hK => runs_eval tab_ok ?_
      simp only [ev0, evA, evB, evP, fl, gp, tab, simprocAttr, reduceCtorEq, reduceIte]
      refine fin_stop trivial (runs_call (nilpotent_ok h nl hnl Z hZ hS bn hbn) rfl rfl rfl (by simp only [dstOk, Nat.reduceLT]) (by repeat (first | exact trivial | constructor)) (runs_eval tab_ok ?_))
      simp only [ev0, evA, evB, evP, fl, gp, tab, simprocAttr, reduceCtorEq, reduceIte]
      refine fin_run ?_ (hK _ ?_) <;> clear hK <;> clear K
      · (first | exact trivial | omega | (simp only [In64] at *; omega) | (simp [In64] at *; omega) | (simp_all; done) | skip)
      refine qa (qm (qm ?_))
      refine hk_region fun K hK => runs_eval tab_ok ?_
      simp only [ev0, evA, evB, evP, fl, gp, tab, simprocAttr, reduceCtorEq, reduceIte]
      refine fin_run ?_ (hK _ ?_) <;> clear hK <;> clear K
      · (first | exact trivial | omega | (simp only [In64] at *; omega) | (simp [In64] at *; omega) | (simp_all; done) | skip)
      refine qa ?_
      refine hk_cond rfl (fun hC2 => ?_) (fun hC2 => ?_)
      · (try simp only [nhs] at hC2)
        refine qm ?_
        refine hk_region fun K hK => runs_eval tab_ok ?_
        simp only [ev0, evA, evB, evP, fl, gp, tab, simprocAttr, reduceCtorEq, reduceIte]
        refine fin_run trivial (hK _ ?_) <;> clear hK <;> clear K
        refine qa (qk (qb ?_))
        simp only [Tryd.results7, enA, ev0, evA, evB, evP, fl, gp, tab, simprocAttr, reduceCtorEq, reduceIte]
        all_goals (rfl)
      · (try simp only [nhs] at hC2)
        have hbt : bn = true := by simpa using hC2
        have hZ1 := hbn.1 hbt
        have hK : ∀ a, a < n → itr nl (fun _ => true) Z a = true → a = e := fun a ha h1 => one_mem G.el (G.fall hnl G.da_nml Z).1.one (by rw [← hZ1]; exact (thl_len _ _).symm) ha h1
        refine qh (qa (qm ?_))
        by_cases hf : (sf n m l).1 = 0
        · obtain ⟨n', e', h', hn', hl1, hs⟩ := sf_ok hf
          obtain rfl : n = n' := by omega
          generalize tst l = p0 at hl1
          subst hl1
          obtain ⟨s, hs'⟩ := gen_ex n (op m n) e p0
          have hsub := gen_sub G hs'
          obtain ⟨c, hc⟩ := gen_ex n (op m n) e (cup n (op m n) e p0)
          have hcs := gen_sub G hc
          have hcn := G.gen_nml (G.cup_nml p0) hc
          have l1 := thl_le n s
          have l2 := thl_le n (nzr n (op m n) e s)
          have l3 := thl_le n c
          have l4 := thl_le n (zen n (op m n))
          have hct : thl n (cent m n fun _ => true) = thl n (zen n (op m n)) := thl_congr fun a _ => cent_zen' m n a
          have hce := centre_ok h
          rw [hct] at hce
          have e1 : (thl n s).length = (mem n s).length := thl_len _ _
          have e2 : (thl n (nzr n (op m n) e s)).length = (mem n (nzr n (op m n) e s)).length := thl_len _ _
          have e3 : (thl n c).length = (mem n c).length := thl_len _ _
          have e4 : (thl n fun a => c a && zen n (op m n) a).length = (mem n fun a => c a && zen n (op m n) a).length := thl_len _ _
          have key : (((thl n s).length : Int) = n ∨ ¬ ((thl n s).length : Int) = n ∧ ((thl n (nzr n (op m n) e s)).length : Int) > ((thl n s).length : Int)) := by
            by_cases h1 : ((thl n s).length : Int) = n
            · exact .inl h1
            · refine .inr ⟨h1, ?_⟩
              have := G.nil_grow hnl hK hsub fun hall => h1 (by have := mem_all.2 hall; omega)
              omega
          have key2 : (((thl n c).length : Int) = 1 ∨ ¬ ((thl n c).length : Int) = 1 ∧ ((thl n fun a => c a && zen n (op m n) a).length : Int) > 1) := by
            by_cases h1 : ((thl n c).length : Int) = 1
            · exact .inl h1
            · refine .inr ⟨h1, ?_⟩
              have := G.nil_centre hnl hK hcs hcn (by omega)
              omega
          refine hk_region fun K hK => runs_eval tab_ok ?_
          simp only [ev0, evA, evB, evP, fl, gp, tab, simprocAttr, reduceCtorEq, reduceIte]
          refine fin_stop trivial (runs_call (made_ok h p0 s hs') rfl rfl rfl (by simp only [dstOk, Nat.reduceLT]) (by repeat (first | exact trivial | constructor)) (runs_eval tab_ok ?_))
          simp only [ev0, evA, evB, evP, fl, gp, tab, simprocAttr, reduceCtorEq, reduceIte]
          refine fin_run ?_ (hK _ ?_) <;> clear hK <;> clear K
          · (first | exact trivial | omega | (simp only [In64] at *; omega) | (simp [In64] at *; omega) | (simp_all; done) | skip)
          refine qa (qm (qm ?_))
          refine hk_region fun K hK => runs_eval tab_ok ?_
          simp only [ev0, evA, evB, evP, fl, gp, tab, simprocAttr, reduceCtorEq, reduceIte]
          refine fin_run ?_ (hK _ ?_) <;> clear hK <;> clear K
          · (first | exact trivial | omega | (simp only [In64] at *; omega) | (simp [In64] at *; omega) | (simp_all; done) | skip)
          refine qa ?_
          refine hk_cond rfl (fun hC3 => ?_) (fun hC3 => ?_)
          · cases hC3
          · (try simp only [nhs] at hC3)
            refine qh (qa (qm ?_))
            refine hk_region fun K hK => runs_eval tab_ok ?_
            simp only [ev0, evA, evB, evP, fl, gp, tab, simprocAttr, reduceCtorEq, reduceIte]
            refine fin_stop trivial (runs_call (normaliser_ok h s hsub) rfl rfl rfl (by simp only [dstOk, Nat.reduceLT]) (by repeat (first | exact trivial | constructor)) (runs_eval tab_ok ?_))
            simp only [ev0, evA, evB, evP, fl, gp, tab, simprocAttr, reduceCtorEq, reduceIte]
            refine fin_run ?_ (hK _ ?_) <;> clear hK <;> clear K
            · (first | exact trivial | omega | (simp only [In64] at *; omega) | (simp [In64] at *; omega) | (simp_all; done) | skip)
            refine qa (qm ?_)
            refine hk_region fun K hK => runs_eval tab_ok ?_
            simp only [ev0, evA, evB, evP, fl, gp, tab, simprocAttr, reduceCtorEq, reduceIte]
            refine fin_stop trivial (runs_call (closure_ok h p0 c hc) rfl rfl rfl (by simp only [dstOk, Nat.reduceLT]) (by repeat (first | exact trivial | constructor)) (runs_eval tab_ok ?_))
            simp only [ev0, evA, evB, evP, fl, gp, tab, simprocAttr, reduceCtorEq, reduceIte]
            refine fin_run ?_ (hK _ ?_) <;> clear hK <;> clear K
            · (first | exact trivial | omega | (simp only [In64] at *; omega) | (simp [In64] at *; omega) | (simp_all; done) | skip)
            refine qa (qm ?_)
            refine hk_region fun K hK => runs_eval tab_ok ?_
            simp only [ev0, evA, evB, evP, fl, gp, tab, simprocAttr, reduceCtorEq, reduceIte]
            refine fin_stop trivial (runs_call (hce) rfl rfl rfl (by simp only [dstOk, Nat.reduceLT]) (by repeat (first | exact trivial | constructor)) (runs_eval tab_ok ?_))
            simp only [ev0, evA, evB, evP, fl, gp, tab, simprocAttr, reduceCtorEq, reduceIte]
            refine fin_run ?_ (hK _ ?_) <;> clear hK <;> clear K
            · (first | exact trivial | omega | (simp only [In64] at *; omega) | (simp [In64] at *; omega) | (simp_all; done) | skip)
            refine qa (qm (qm ?_))
            refine hk_region fun K hK => runs_eval tab_ok ?_
            simp only [ev0, evA, evB, evP, fl, gp, tab, simprocAttr, reduceCtorEq, reduceIte]
            refine fin_run ?_ (hK _ ?_) <;> clear hK <;> clear K
            · (first | exact trivial | omega | (simp only [In64] at *; omega) | (simp [In64] at *; omega) | (simp_all; done) | skip)
            refine qa ?_
            refine hk_cond rfl (fun hC4 => ?_) (fun hC4 => ?_)
            · cases hC4
            · (try simp only [nhs] at hC4)
              refine qh (qa (qm ?_))
              rcases key with k1 | ⟨k1, k1'⟩ <;> rcases key2 with k2 | ⟨k2, k2'⟩
              · refine hk_region fun K hK => runs_eval tab_ok ?_
                simp only [ev0, evA, evB, evP, fl, gp, tab, simprocAttr, reduceCtorEq, reduceIte, il_length, decide_eq_true k1, decide_eq_true k2]
                refine fin_run ?_ (hK _ ?_) <;> clear hK <;> clear K
                · (first | exact trivial | omega | (simp only [In64] at *; omega) | (simp [In64] at *; omega) | (simp_all; done) | skip)
                refine qa (qk ?_)
                simp only [Tryd.results7, enA, ev0, evA, evB, evP, fl, gp, tab, simprocAttr, reduceCtorEq, reduceIte]
                all_goals (rfl)
              · refine hk_region fun K hK => runs_eval tab_ok ?_
                simp only [ev0, evA, evB, evP, fl, gp, tab, simprocAttr, reduceCtorEq, reduceIte, il_length, decide_eq_true k1, decide_eq_false k2, bth_thl, decide_eq_true k2']
                refine fin_stop trivial (runs_call (both_c (thl n c) (thl n (zen n (op m n))) (by omega) (by omega)) rfl rfl rfl (by simp only [dstOk, Nat.reduceLT]) (by repeat (first | exact trivial | constructor)) (runs_eval tab_ok ?_))
                simp only [ev0, evA, evB, evP, fl, gp, tab, simprocAttr, reduceCtorEq, reduceIte, il_length, decide_eq_true k1, decide_eq_false k2, bth_thl, decide_eq_true k2']
                refine fin_run ?_ (hK _ ?_) <;> clear hK <;> clear K
                · (first | exact trivial | omega | (simp only [In64] at *; omega) | (simp [In64] at *; omega) | (simp_all; done) | skip)
                refine qa (qk ?_)
                simp only [Tryd.results7, enA, ev0, evA, evB, evP, fl, gp, tab, simprocAttr, reduceCtorEq, reduceIte]
                all_goals (rfl)
              · refine hk_region fun K hK => runs_eval tab_ok ?_
                simp only [ev0, evA, evB, evP, fl, gp, tab, simprocAttr, reduceCtorEq, reduceIte, il_length, decide_eq_false k1, decide_eq_true k1', decide_eq_true k2]
                refine fin_run ?_ (hK _ ?_) <;> clear hK <;> clear K
                · (first | exact trivial | omega | (simp only [In64] at *; omega) | (simp [In64] at *; omega) | (simp_all; done) | skip)
                refine qa (qk ?_)
                simp only [Tryd.results7, enA, ev0, evA, evB, evP, fl, gp, tab, simprocAttr, reduceCtorEq, reduceIte]
                all_goals (rfl)
              · refine hk_region fun K hK => runs_eval tab_ok ?_
                simp only [ev0, evA, evB, evP, fl, gp, tab, simprocAttr, reduceCtorEq, reduceIte, il_length, decide_eq_false k1, decide_eq_true k1', decide_eq_false k2, bth_thl, decide_eq_true k2']
                refine fin_stop trivial (runs_call (both_c (thl n c) (thl n (zen n (op m n))) (by omega) (by omega)) rfl rfl rfl (by simp only [dstOk, Nat.reduceLT]) (by repeat (first | exact trivial | constructor)) (runs_eval tab_ok ?_))
                simp only [ev0, evA, evB, evP, fl, gp, tab, simprocAttr, reduceCtorEq, reduceIte, il_length, decide_eq_false k1, decide_eq_true k1', decide_eq_false k2, bth_thl, decide_eq_true k2']
                refine fin_run ?_ (hK _ ?_) <;> clear hK <;> clear K
                · (first | exact trivial | omega | (simp only [In64] at *; omega) | (simp [In64] at *; omega) | (simp_all; done) | skip)
                refine qa (qk ?_)
                simp only [Tryd.results7, enA, ev0, evA, evB, evP, fl, gp, tab, simprocAttr, reduceCtorEq, reduceIte]
                all_goals (rfl)
        · refine hk_region fun K hK => runs_eval tab_ok ?_
          simp only [ev0, evA, evB, evP, fl, gp, tab, simprocAttr, reduceCtorEq, reduceIte]
          refine fin_stop trivial (runs_call (made_no n m l (by omega) (by omega) hf) rfl rfl rfl (by simp only [dstOk, Nat.reduceLT]) (by repeat (first | exact trivial | constructor)) (runs_eval tab_ok ?_))
          simp only [ev0, evA, evB, evP, fl, gp, tab, simprocAttr, reduceCtorEq, reduceIte]
          refine fin_run ?_ (hK _ ?_) <;> clear hK <;> clear K
          · (first | exact trivial | omega | (simp only [In64] at *; omega) | (simp [In64] at *; omega) | (simp_all; done) | skip)
          refine qa (qm (qm ?_))
          refine hk_region fun K hK => runs_eval tab_ok ?_
          simp only [ev0, evA, evB, evP, fl, gp, tab, simprocAttr, reduceCtorEq, reduceIte]
          refine fin_run ?_ (hK _ ?_) <;> clear hK <;> clear K
          · (first | exact trivial | omega | (simp only [In64] at *; omega) | (simp [In64] at *; omega) | (simp_all; done) | skip)
          refine qa ?_
          refine hk_cond rfl (fun hC3 => ?_) (fun hC3 => ?_)
          · (try simp only [nhs] at hC3)
            refine qm ?_
            refine hk_region fun K hK => runs_eval tab_ok ?_
            simp only [ev0, evA, evB, evP, fl, gp, tab, simprocAttr, reduceCtorEq, reduceIte]
            refine fin_run trivial (hK _ ?_) <;> clear hK <;> clear K
            refine qa (qk (qb ?_))
            simp only [Tryd.results7, enA, ev0, evA, evB, evP, fl, gp, tab, simprocAttr, reduceCtorEq, reduceIte]
            all_goals (rfl)
          · (try simp only [nhs] at hC3)
            exact absurd hC3 hf
    · refine hk_region fun K hK => runs_eval tab_ok ?_
      simp only [ev0, evA, evB, evP, fl, gp, tab, simprocAttr, reduceCtorEq, reduceIte]
      refine fin_stop trivial (runs_call (nilpotent_no N m (by omega) hg) rfl rfl rfl (by simp only [dstOk, Nat.reduceLT]) (by repeat (first | exact trivial | constructor)) (runs_eval tab_ok ?_))
      simp only [ev0, evA, evB, evP, fl, gp, tab, simprocAttr, reduceCtorEq, reduceIte]
      refine fin_run ?_ (hK _ ?_) <;> clear hK <;> clear K
      · (first | exact trivial | omega | (simp only [In64] at *; omega) | (simp [In64] at *; omega) | (simp_all; done) | skip)
      refine qa (qm (qm ?_))
      refine hk_region fun K hK => runs_eval tab_ok ?_
      simp only [ev0, evA, evB, evP, fl, gp, tab, simprocAttr, reduceCtorEq, reduceIte, decide_eq_false hg]
      refine fin_run ?_ (hK _ ?_) <;> clear hK <;> clear K
      · (first | exact trivial | omega | (simp only [In64] at *; omega) | (simp [In64] at *; omega) | (simp_all; done) | skip)
      refine qa ?_
      refine hk_cond rfl (fun hC2 => ?_) (fun hC2 => ?_)
      · refine qm ?_
        refine hk_region fun K hK => runs_eval tab_ok ?_
        simp only [ev0, evA, evB, evP, fl, gp, tab, simprocAttr, reduceCtorEq, reduceIte]
        refine fin_run trivial (hK _ ?_) <;> clear hK <;> clear K
        refine qa (qk (qb ?_))
        simp only [Tryd.results7, enA, ev0, evA, evB, evP, fl, gp, tab, simprocAttr, reduceCtorEq, reduceIte]
        all_goals (rfl)
      · cases hC2
end Go.Proofs.YtgnhcdpjmfoklaaDoor
