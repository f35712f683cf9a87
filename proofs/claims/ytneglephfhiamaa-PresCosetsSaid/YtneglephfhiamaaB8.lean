/-
  Texts of this proof, one behind the other: what each says stands at its head. Conditions: none.
-/
import Derived.Test.YtneglephfhiamaaB5
import Derived.Test.YtneglephfhiamaaB6
import Derived.Test.YtneglephfhiamaaB4
import Derived.Test.YtneglephfhiamaaB7

set_option linter.all false
namespace Go.Proofs.Ytneglephfhiamaa
open Go.Pv
set_option maxHeartbeats 4000000 in
theorem led_c {m : Nat} (hm : 1 ≤ m ∧ m ≤ 6) (t : List (List Int)) (h : Tb m t) (ht : t.length ≤ 1000000) {a : Nat} (ha : a < t.length) (w : List Int) (hw : Lt m w) (hl : w.length ≤ 1000000000) : FnC Try.prog 76 [.list (ll t), .int .i64 a, .list (il w)] (.int .i64 (ledT t a w)) := by
  refine fnc_of tab_ok Try.func76 rfl (by kernel_rfl) (by rw [Try.ntmps76]; exact Nat.le_add_left 3 _) ?_; rw [Try.ntmps76]
  refine qm ?_
  refine hk_region fun K hK => runs_eval tab_ok ?_
  simp only [ev0, evA, evB, evP, fl, gp, tab, simprocAttr]
  refine fin_run trivial (hK _ ?_) <;> clear hK <;> clear K
  refine qa (qm (qm ?_))
  refine hk_region fun K hK => runs_eval tab_ok ?_
  simp only [ev0, evA, evB, evP, fl, gp, tab, simprocAttr]
  refine fin_run trivial (hK _ ?_) <;> clear hK <;> clear K
  refine qa (ql ?_)
  refine hk_loop (ι := Nat × Nat) (fun q => ⟨26, [(0, .p (.list (ll t))), (1, .p (.int .i64 (q.2 : Nat))), (2, .p (.list (il w))), (7, .p (.int .i64 (q.1 : Nat)))], []⟩) (fun q => q.1 ≤ w.length ∧ q.2 < t.length ∧ ledT t q.2 (w.drop q.1) = ledT t a w) (fun q => w.length - q.1) (0, a) ⟨Nat.zero_le _, ha, rfl⟩ [] (by simp only [leq, leA, ev0, evA, evB, evP, fl, gp, tab, simprocAttr] <;> trivial) fun q hq => ?_
  obtain ⟨i, b⟩ := q
  obtain ⟨q1, q2, q3⟩ := hq
  simp only at q1 q2 q3 ⊢
  refine qm (qm ?_)
  refine hk_region fun K hK => runs_eval tab_ok ?_
  simp only [ev0, evA, evB, evP, fl, gp, tab, simprocAttr, il_length]
  refine fin_run trivial (hK _ ?_) <;> clear hK <;> clear K
  refine qa ?_
  refine hk_cond rfl (fun hC1 => ?_) (fun hC1 => ?_)
  · (try simp only [nhs] at hC1)
    have hi : i < w.length := by omega
    obtain ⟨x, hx⟩ : ∃ x, w.getD i 0 = x := ⟨_, rfl⟩
    have hxl := hw x (hx ▸ getD_mem' hi)
    have hdr : w.drop i = x :: w.drop (i + 1) := by
      rw [List.drop_eq_getElem_cons hi, ← hx, List.getD_eq_getElem?_getD, List.getElem?_eq_getElem hi]; rfl
    rw [hdr, ledT] at q3
    obtain ⟨c, hc⟩ := Int.eq_ofNat_of_zero_le (cI_lt hxl.1 hxl.2.1 hxl.2.2).1
    have hc2 := (cI_lt hxl.1 hxl.2.1 hxl.2.2).2
    obtain ⟨s1, s2⟩ := h.st q2 hxl
    have hrow := (h.at q2).1
    rw [hc, Int.toNat_natCast] at s1
    rw [hc, Int.toNat_natCast] at hc2
    refine qh (qa (qm (ql ?_)))
    refine hk_draw mixed (by kernel_rfl) fun K hK => runs_eval tab_ok ?_
    simp only [ev0, evA, evB, evP, fl, gp, tab, simprocAttr, il_length, ll_length, ll_get q2, il_get hi, hx, hc, Int.toNat_natCast, Int.ofNat_eq_natCast, il_get (show c < (t.getD b []).length by omega), s1]
    refine fin_stop ?_ (runs_call (column_c (by omega)) rfl rfl rfl (by simp only [dstOk, Nat.reduceLT]) (by repeat (first | exact trivial | constructor)) (runs_eval tab_ok ?_))
    · first | trivial | omega | exact ⟨by omega, by omega⟩ | (repeat (first | omega | constructor))
    simp only [ev0, evA, evB, evP, fl, gp, tab, simprocAttr, il_length, ll_length, ll_get q2, il_get hi, hx, hc, Int.toNat_natCast, Int.ofNat_eq_natCast, il_get (show c < (t.getD b []).length by omega), s1]
    refine fin_run ?_ (hK _ ?_) <;> clear hK <;> clear K
    · first | trivial | omega | exact ⟨by omega, by omega⟩
    refine qd (qa ?_)
    refine hk_region fun K hK => runs_eval tab_ok ?_
    simp only [ev0, evA, evB, evP, fl, gp, tab, simprocAttr]
    refine fin_run ?_ (hK _ ?_) <;> clear hK <;> clear K
    · (first | exact trivial | omega | (simp only [In64] at *; omega) | (simp [In64] at *; omega) | (simp_all; done) | skip)
    refine qa ?_
    refine ⟨(i + 1, stT t b x), [], ⟨hi, s2, q3⟩, by simp only; omega, ?_⟩
    simp only [leq, leA, ev0, evA, evB, evP, fl, gp, tab, simprocAttr] <;> first | trivial | trace_state
  · (try simp only [nhs] at hC1)
    have hie : i = w.length := by omega
    rw [hie, List.drop_length] at q3
    refine qj (qc (qc (qf (qa (qm ?_)))))
    refine hk_region fun K hK => runs_eval tab_ok ?_
    simp only [ev0, evA, evB, evP, fl, gp, tab, simprocAttr]
    refine fin_run trivial (hK _ ?_) <;> clear hK <;> clear K
    refine qa (qk ?_)
    simp only [Try.results76, enA, ev0, evA, evB, evP, fl, gp, tab, simprocAttr]
    all_goals (rw [← q3]; rfl)
theorem nxR_step {n n' : Nat} {r : List Int} {k : Nat} (h : nxR n (r.drop k) = some n') (hk : k < r.length) : ¬ (n : Int) < r.getD k 0 ∧ nxR (if r.getD k 0 = n then n + 1 else n) (r.drop (k + 1)) = some n' := by
  have hdr : r.drop k = r.getD k 0 :: r.drop (k + 1) := by
    rw [List.drop_eq_getElem_cons hk, List.getD_eq_getElem?_getD, List.getElem?_eq_getElem hk]; rfl
  rw [hdr, nxR] at h
  split at h
  · cases h
  · rename_i hn; exact ⟨hn, h⟩
set_option maxHeartbeats 8000000 in
theorem cosetTable_c {m : Nat} (hm : 1 ≤ m ∧ m ≤ 6) (t rels subs : List (List Int)) (h : TabOk m t rels subs) (ht : t.length ≤ 1000000) (hr : rels.length ≤ 1000000000 ∧ ∀ w ∈ rels, w.length ≤ 1000000000) (hs : subs.length ≤ 1000000000 ∧ ∀ w ∈ subs, w.length ≤ 1000000000) (h0 : 0 < t.length) : FnC Try.prog 45 [.list (ll t), .int .i64 m, .list (ll rels), .list (ll subs)] (.bool true) := by
  refine fnc_of tab_ok Try.func45 rfl (by kernel_rfl) (by rw [Try.ntmps45]; exact Nat.le_add_left 4 _) ?_; rw [Try.ntmps45]
  refine qm ?_
  refine hk_region fun K hK => runs_eval tab_ok ?_
  simp only [ev0, evA, evB, evP, fl, gp, tab, simprocAttr]
  refine fin_run trivial (hK _ ?_) <;> clear hK <;> clear K
  refine qa (qm ?_)
  refine hk_region fun K hK => runs_eval tab_ok ?_
  simp only [ev0, evA, evB, evP, fl, gp, tab, simprocAttr]
  refine fin_run trivial (hK _ ?_) <;> clear hK <;> clear K
  refine qa (qm (qm ?_))
  refine hk_region fun K hK => runs_eval tab_ok ?_
  simp only [ev0, evA, evB, evP, fl, gp, tab, simprocAttr]
  refine fin_run trivial (hK _ ?_) <;> clear hK <;> clear K
  refine qa (ql ?_)
  refine hk_loop (ι := Nat × Nat) (fun q => ⟨160, [(0, .p (.list (ll t))), (1, .p (.int .i64 (m : Nat))), (2, .p (.list (ll rels))), (3, .p (.list (ll subs))), (9, .p (.int .i64 (q.2 : Nat))), (10, .p (.int .i64 (q.1 : Nat)))], []⟩) (fun q => q.1 ≤ t.length ∧ q.2 ≤ 1 + q.1 * (2 * m) ∧ nxT q.2 q.1 (t.drop q.1)) (fun q => t.length - q.1) (0, 1) ⟨Nat.zero_le _, by simp, h.nx⟩ [] (by simp only [leq, leA, ev0, evA, evB, evP, fl, gp, tab, simprocAttr] <;> trivial) fun q hq => ?_
  obtain ⟨i, n⟩ := q
  obtain ⟨q1, q0, q2⟩ := hq
  simp only at q1 q0 q2 ⊢
  refine qm (qm ?_)
  refine hk_region fun K hK => runs_eval tab_ok ?_
  simp only [ev0, evA, evB, evP, fl, gp, tab, simprocAttr, ll_length]
  refine fin_run trivial (hK _ ?_) <;> clear hK <;> clear K
  refine qa ?_
  refine hk_cond rfl (fun hC1 => ?_) (fun hC1 => ?_)
  · (try simp only [nhs] at hC1)
    have hi : i < t.length := by omega
    obtain ⟨r, hrd⟩ : ∃ r, t.getD i [] = r := ⟨_, rfl⟩
    have hdr : t.drop i = r :: t.drop (i + 1) := by
      rw [List.drop_eq_getElem_cons hi, ← hrd, List.getD_eq_getElem?_getD, List.getElem?_eq_getElem hi]; rfl
    rw [hdr] at q2
    obtain ⟨hin, n2, q3, q4⟩ := q2
    have hrow := (h.tb.at hi).1
    have hent := (h.tb.at hi).2
    rw [hrd] at hrow hent
    have hne : ((r.length : Int) = 2 * (m : Int)) := by omega
    have hb1 : i * (2 * m) ≤ 1000000 * 12 := Nat.mul_le_mul (by omega) (by omega)
    have hb2 : 1 + (i + 1) * (2 * m) = 1 + i * (2 * m) + 2 * m := by rw [Nat.add_mul]; omega
    refine qh (qa (qm (ql (qm (qm ?_)))))
    refine hk_region fun K hK => runs_eval tab_ok ?_
    simp only [ev0, evA, evB, evP, fl, gp, tab, simprocAttr, ll_length, ll_get hi, hrd, il_length, hne]
    refine fin_run ?_ (hK _ ?_) <;> clear hK <;> clear K
    · first | omega | (repeat (first | omega | (simp only [In64]; omega) | constructor))
    refine qa ?_
    refine hk_cond rfl (fun hC2 => ?_) (fun hC2 => ?_)
    · (try simp only [nhs] at hC2)
      omega
    · (try simp only [nhs] at hC2)
      refine qh (qa (qm ?_))
      refine hk_region fun K hK => runs_eval tab_ok ?_
      simp only [ev0, evA, evB, evP, fl, gp, tab, simprocAttr]
      refine fin_run trivial (hK _ ?_) <;> clear hK <;> clear K
      refine qa (ql ?_)
      refine hk_loop (ι := Nat × Nat) (fun q => ⟨160, [(0, .p (.list (ll t))), (1, .p (.int .i64 (m : Nat))), (2, .p (.list (ll rels))), (3, .p (.list (ll subs))), (9, .p (.int .i64 (q.2 : Nat))), (10, .p (.int .i64 (i : Nat))), (11, .p (.int .i64 (q.1 : Nat)))], []⟩) (fun q => q.1 ≤ 2 * m ∧ q.2 ≤ 1 + i * (2 * m) + q.1 ∧ nxR q.2 (r.drop q.1) = some n2) (fun q => 2 * m - q.1) (0, n) ⟨Nat.zero_le _, q0, q3⟩ [] (by simp only [leq, leA, ev0, evA, evB, evP, fl, gp, tab, simprocAttr] <;> trivial) fun q hq => ?_
      obtain ⟨k, n3⟩ := q
      obtain ⟨k1, k0, k2⟩ := hq
      simp only at k1 k0 k2 ⊢
      refine qm (qm ?_)
      refine hk_region fun K hK => runs_eval tab_ok ?_
      simp only [ev0, evA, evB, evP, fl, gp, tab, simprocAttr]
      refine fin_run ?_ (hK _ ?_) <;> clear hK <;> clear K
      · first | omega | (repeat (first | omega | (simp only [In64]; omega) | constructor))
      refine qa ?_
      refine hk_cond rfl (fun hC3 => ?_) (fun hC3 => ?_)
      · (try simp only [nhs] at hC3)
        have hk : k < 2 * m := by omega
        obtain ⟨d, hd1, hd2⟩ := hent k hk
        obtain ⟨k3, k4⟩ := nxR_step k2 (by omega)
        rw [hd1] at k3 k4
        have hkr : k < r.length := by omega
        have g10 : decide ((d : Int) < 0) = false := decide_eq_false (by omega)
        have g11 : decide ((d : Int) ≥ (t.length : Int)) = false := decide_eq_false (by omega)
        have g12 : decide ((t.length : Int) ≤ (d : Int)) = false := decide_eq_false (by omega)
        refine qh (qa (qm (ql (qm (qm ?_)))))
        refine hk_region fun K hK => runs_eval tab_ok ?_
        simp only [ev0, evA, evB, evP, fl, gp, tab, simprocAttr, ll_length, ll_get hi, hrd, il_length, il_get hkr, hd1, g10, g11, g12]
        refine fin_run ?_ (hK _ ?_) <;> clear hK <;> clear K
        · first | omega | (repeat (first | omega | (simp only [In64]; omega) | constructor))
        refine qa ?_
        refine hk_cond rfl (fun hC4 => ?_) (fun hC4 => ?_)
        · (try simp only [nhs] at hC4)
          omega
        · (try simp only [nhs] at hC4)
          refine qh (qa (qm ?_))
          refine hk_region fun K hK => runs_eval tab_ok ?_
          simp only [ev0, evA, evB, evP, fl, gp, tab, simprocAttr, ll_length, ll_get hi, hrd, il_length, il_get hkr, hd1]
          refine fin_run ?_ (hK _ ?_) <;> clear hK <;> clear K
          · first | omega | (repeat (first | omega | (simp only [In64]; omega) | constructor))
          refine qa ?_
          refine hk_cond rfl (fun hC5 => ?_) (fun hC5 => ?_)
          · (try simp only [nhs] at hC5)
            have hdn : (d : Int) = n3 := by omega
            rw [if_pos hdn] at k4
            refine hk_region fun K hK => runs_eval tab_ok ?_
            simp only [ev0, evA, evB, evP, fl, gp, tab, simprocAttr]
            refine fin_run ?_ (hK _ ?_) <;> clear hK <;> clear K
            · first | omega | (repeat (first | omega | (simp only [In64]; omega) | constructor))
            refine qd (qa ?_)
            refine hk_region fun K hK => runs_eval tab_ok ?_
            simp only [ev0, evA, evB, evP, fl, gp, tab, simprocAttr]
            refine fin_run ?_ (hK _ ?_) <;> clear hK <;> clear K
            · (first | exact trivial | omega | (simp only [In64] at *; omega) | (simp [In64] at *; omega) | (simp_all; done) | skip)
            refine qa ?_
            refine ⟨(k + 1, n3 + 1), [], ⟨by simp only; omega, by simp only; omega, k4⟩, by simp only; omega, ?_⟩
            simp only [leq, leA, ev0, evA, evB, evP, fl, gp, tab, simprocAttr] <;> first | trivial | trace_state
          · (try simp only [nhs] at hC5)
            have hdn : ¬ (d : Int) = n3 := by omega
            rw [if_neg hdn] at k4
            refine qh (qd (qa ?_))
            refine hk_region fun K hK => runs_eval tab_ok ?_
            simp only [ev0, evA, evB, evP, fl, gp, tab, simprocAttr]
            refine fin_run ?_ (hK _ ?_) <;> clear hK <;> clear K
            · (first | exact trivial | omega | (simp only [In64] at *; omega) | (simp [In64] at *; omega) | (simp_all; done) | skip)
            refine qa ?_
            refine ⟨(k + 1, n3), [], ⟨by simp only; omega, by simp only; omega, k4⟩, by simp only; omega, ?_⟩
            simp only [leq, leA, ev0, evA, evB, evP, fl, gp, tab, simprocAttr] <;> first | trivial | trace_state
      · (try simp only [nhs] at hC3)
        have hke : k = 2 * m := by omega
        rw [hke, List.drop_eq_nil_of_le (by omega)] at k2
        have hn2 : n3 = n2 := Option.some.inj k2
        refine qj (qc (qc (qf (qd (qa ?_)))))
        refine hk_region fun K hK => runs_eval tab_ok ?_
        simp only [ev0, evA, evB, evP, fl, gp, tab, simprocAttr]
        refine fin_run ?_ (hK _ ?_) <;> clear hK <;> clear K
        · (first | exact trivial | omega | (simp only [In64] at *; omega) | (simp [In64] at *; omega) | (simp_all; done) | skip)
        refine qa ?_
        refine ⟨(i + 1, n2), [], ⟨hi, by simp only; omega, q4⟩, by simp only; omega, ?_⟩
        rw [← hn2]
        simp only [leq, leA, ev0, evA, evB, evP, fl, gp, tab, simprocAttr] <;> first | trivial | trace_state
  · (try simp only [nhs] at hC1)
    refine qj (qc (qc (qf (qa (qm (qm ?_))))))
    refine hk_region fun K hK => runs_eval tab_ok ?_
    simp only [ev0, evA, evB, evP, fl, gp, tab, simprocAttr]
    refine fin_run trivial (hK _ ?_) <;> clear hK <;> clear K
    refine qa (ql ?_)
    refine hk_loop (ι := Nat) (fun i => ⟨160, [(0, .p (.list (ll t))), (1, .p (.int .i64 (m : Nat))), (2, .p (.list (ll rels))), (3, .p (.list (ll subs))), (12, .p (.int .i64 (i : Nat)))], []⟩) (fun i => i ≤ t.length) (fun i => t.length - i) 0 (Nat.zero_le _) [] (by simp only [leq, leA, ev0, evA, evB, evP, fl, gp, tab, simprocAttr] <;> trivial) fun i hq => ?_
    refine qm (qm ?_)
    refine hk_region fun K hK => runs_eval tab_ok ?_
    simp only [ev0, evA, evB, evP, fl, gp, tab, simprocAttr, ll_length]
    refine fin_run trivial (hK _ ?_) <;> clear hK <;> clear K
    refine qa ?_
    refine hk_cond rfl (fun hC6 => ?_) (fun hC6 => ?_)
    · (try simp only [nhs] at hC6)
      have hi : i < t.length := by omega
      have hrow := (h.tb.at hi).1
      refine qh (qa (qm (ql (qm (qm ?_)))))
      refine hk_region fun K hK => runs_eval tab_ok ?_
      simp only [ev0, evA, evB, evP, fl, gp, tab, simprocAttr]
      refine fin_run trivial (hK _ ?_) <;> clear hK <;> clear K
      refine qa (ql ?_)
      refine hk_loop (ι := Nat) (fun x => ⟨160, [(0, .p (.list (ll t))), (1, .p (.int .i64 (m : Nat))), (2, .p (.list (ll rels))), (3, .p (.list (ll subs))), (12, .p (.int .i64 (i : Nat))), (13, .p (.int .i64 (x : Nat)))], []⟩) (fun x => 1 ≤ x ∧ x ≤ m + 1) (fun x => m + 1 - x) 1 ⟨Nat.le_refl _, by omega⟩ [] (by simp only [leq, leA, ev0, evA, evB, evP, fl, gp, tab, simprocAttr] <;> trivial) fun x hx => ?_
      obtain ⟨x1, x2⟩ := hx
      refine qm (qm ?_)
      refine hk_region fun K hK => runs_eval tab_ok ?_
      simp only [ev0, evA, evB, evP, fl, gp, tab, simprocAttr]
      refine fin_run trivial (hK _ ?_) <;> clear hK <;> clear K
      refine qa ?_
      refine hk_cond rfl (fun hC7 => ?_) (fun hC7 => ?_)
      · (try simp only [nhs] at hC7)
        have hxm : x ≤ m := by omega
        have hx1 : (x : Int) ≠ 0 ∧ -(m : Int) ≤ x ∧ (x : Int) ≤ m := ⟨by omega, by omega, by omega⟩
        have hx2 : -(x : Int) ≠ 0 ∧ -(m : Int) ≤ -(x : Int) ∧ -(x : Int) ≤ m := ⟨by omega, by omega, by omega⟩
        obtain ⟨c1, hc1⟩ := Int.eq_ofNat_of_zero_le (cI_lt hx1.1 hx1.2.1 hx1.2.2).1
        obtain ⟨c2, hc2⟩ := Int.eq_ofNat_of_zero_le (cI_lt hx2.1 hx2.2.1 hx2.2.2).1
        have l1 := (cI_lt hx1.1 hx1.2.1 hx1.2.2).2
        have l2 := (cI_lt hx2.1 hx2.2.1 hx2.2.2).2
        obtain ⟨a1, a2⟩ := h.tb.st hi hx1
        obtain ⟨b1, b2⟩ := h.tb.st hi hx2
        obtain ⟨d1, hd1⟩ : ∃ d, stT t i x = d := ⟨_, rfl⟩
        obtain ⟨d2, hd2⟩ : ∃ d, stT t i (-(x : Int)) = d := ⟨_, rfl⟩
        have u1 := h.und i hi x hx1.1 hx1.2.1 hx1.2.2
        have u2 := h.und i hi (-(x : Int)) hx2.1 hx2.2.1 hx2.2.2
        rw [Int.neg_neg] at u2
        rw [hd1] at a1 a2 u1
        rw [hd2] at b1 b2 u2
        have e1 := (h.tb.st a2 hx2).1
        have e2 := (h.tb.st b2 hx1).1
        rw [u1] at e1
        rw [u2] at e2
        have r1 := (h.tb.at a2).1
        have r2 := (h.tb.at b2).1
        rw [hc1, Int.toNat_natCast] at a1 e2 l1
        rw [hc2, Int.toNat_natCast] at b1 e1 l2
        refine qh (qa (qm (ql (qm ?_))))
        refine hk_draw mixed (by kernel_rfl) fun K hK => runs_eval tab_ok ?_
        simp only [ev0, evA, evB, evP, fl, gp, tab, simprocAttr, ll_length, ll_get hi, ll_get a2, ll_get b2, il_length, hc1, hc2, Int.toNat_natCast, Int.ofNat_eq_natCast, il_get (show c1 < (t.getD i []).length by omega), il_get (show c2 < (t.getD i []).length by omega), il_get (show c2 < (t.getD d1 []).length by omega), il_get (show c1 < (t.getD d2 []).length by omega), a1, b1, e1, e2]
        refine fin_stop ?_ (runs_call (column_c (x := (x : Int)) (by omega)) rfl rfl rfl (by simp only [dstOk, Nat.reduceLT]) (by repeat (first | exact trivial | constructor)) (runs_eval tab_ok ?_))
        · (repeat (first | omega | (simp only [In64]; omega) | constructor))
        simp only [ev0, evA, evB, evP, fl, gp, tab, simprocAttr, ll_length, ll_get hi, ll_get a2, ll_get b2, il_length, hc1, hc2, Int.toNat_natCast, Int.ofNat_eq_natCast, il_get (show c1 < (t.getD i []).length by omega), il_get (show c2 < (t.getD i []).length by omega), il_get (show c2 < (t.getD d1 []).length by omega), il_get (show c1 < (t.getD d2 []).length by omega), a1, b1, e1, e2]
        refine fin_stop ?_ (runs_call (column_c (x := -(x : Int)) (by omega)) rfl rfl rfl (by simp only [dstOk, Nat.reduceLT]) (by repeat (first | exact trivial | constructor)) (runs_eval tab_ok ?_))
        · (repeat (first | omega | (simp only [In64]; omega) | constructor))
        simp only [ev0, evA, evB, evP, fl, gp, tab, simprocAttr, ll_length, ll_get hi, ll_get a2, ll_get b2, il_length, hc1, hc2, Int.toNat_natCast, Int.ofNat_eq_natCast, il_get (show c1 < (t.getD i []).length by omega), il_get (show c2 < (t.getD i []).length by omega), il_get (show c2 < (t.getD d1 []).length by omega), il_get (show c1 < (t.getD d2 []).length by omega), a1, b1, e1, e2]
        refine fin_stop ?_ (runs_call (column_c (x := -(x : Int)) (by omega)) rfl rfl rfl (by simp only [dstOk, Nat.reduceLT]) (by repeat (first | exact trivial | constructor)) (runs_eval tab_ok ?_))
        · (repeat (first | omega | (simp only [In64]; omega) | constructor))
        simp only [ev0, evA, evB, evP, fl, gp, tab, simprocAttr, ll_length, ll_get hi, ll_get a2, ll_get b2, il_length, hc1, hc2, Int.toNat_natCast, Int.ofNat_eq_natCast, il_get (show c1 < (t.getD i []).length by omega), il_get (show c2 < (t.getD i []).length by omega), il_get (show c2 < (t.getD d1 []).length by omega), il_get (show c1 < (t.getD d2 []).length by omega), a1, b1, e1, e2]
        refine fin_stop ?_ (runs_call (column_c (x := (x : Int)) (by omega)) rfl rfl rfl (by simp only [dstOk, Nat.reduceLT]) (by repeat (first | exact trivial | constructor)) (runs_eval tab_ok ?_))
        · (repeat (first | omega | (simp only [In64]; omega) | constructor))
        simp only [ev0, evA, evB, evP, fl, gp, tab, simprocAttr, ll_length, ll_get hi, ll_get a2, ll_get b2, il_length, hc1, hc2, Int.toNat_natCast, Int.ofNat_eq_natCast, il_get (show c1 < (t.getD i []).length by omega), il_get (show c2 < (t.getD i []).length by omega), il_get (show c2 < (t.getD d1 []).length by omega), il_get (show c1 < (t.getD d2 []).length by omega), a1, b1, e1, e2]
        refine fin_run ?_ (hK _ ?_) <;> clear hK <;> clear K
        · (repeat (first | omega | (simp only [In64]; omega) | constructor))
        refine qa ?_
        refine hk_cond rfl (fun hC8 => ?_) (fun hC8 => ?_)
        · (try simp only [nhs] at hC8)
          simp at hC8
        · (try simp only [nhs] at hC8)
          refine qh (qd (qa ?_))
          refine hk_region fun K hK => runs_eval tab_ok ?_
          simp only [ev0, evA, evB, evP, fl, gp, tab, simprocAttr]
          refine fin_run ?_ (hK _ ?_) <;> clear hK <;> clear K
          · (first | exact trivial | omega | (simp only [In64] at *; omega) | (simp [In64] at *; omega) | (simp_all; done) | skip)
          refine qa ?_
          refine ⟨x + 1, [], ⟨by omega, by omega⟩, by omega, by simp only [leq, leA, ev0, evA, evB, evP, fl, gp, tab, simprocAttr] <;> first | trivial | trace_state⟩
      · (try simp only [nhs] at hC7)
        refine qj (qc (qc (qf (qa (qm ?_)))))
        refine hk_region fun K hK => runs_eval tab_ok ?_
        simp only [ev0, evA, evB, evP, fl, gp, tab, simprocAttr]
        refine fin_run trivial (hK _ ?_) <;> clear hK <;> clear K
        refine qa (ql ?_)
        refine hk_loop (ι := Nat) (fun k => ⟨160, [(0, .p (.list (ll t))), (1, .p (.int .i64 (m : Nat))), (2, .p (.list (ll rels))), (3, .p (.list (ll subs))), (12, .p (.int .i64 (i : Nat))), (14, .p (.int .i64 (k : Nat)))], []⟩) (fun k => k ≤ rels.length) (fun k => rels.length - k) 0 (Nat.zero_le _) [] (by simp only [leq, leA, ev0, evA, evB, evP, fl, gp, tab, simprocAttr] <;> trivial) fun k hk => ?_
        refine qm (qm ?_)
        refine hk_region fun K hK => runs_eval tab_ok ?_
        simp only [ev0, evA, evB, evP, fl, gp, tab, simprocAttr, ll_length]
        refine fin_run trivial (hK _ ?_) <;> clear hK <;> clear K
        refine qa ?_
        refine hk_cond rfl (fun hC9 => ?_) (fun hC9 => ?_)
        · (try simp only [nhs] at hC9)
          have hkl : k < rels.length := by omega
          obtain ⟨w, hw⟩ : ∃ w, rels.getD k [] = w := ⟨_, rfl⟩
          have hwm : w ∈ rels := hw ▸ getD_mem' hkl
          refine qh (qa (qm (ql (qm ?_))))
          refine hk_region fun K hK => runs_eval tab_ok ?_
          simp only [ev0, evA, evB, evP, fl, gp, tab, simprocAttr, ll_length, ll_get hkl, hw, h.rel i hi w hwm]
          refine fin_stop ?_ (runs_call (led_c hm t h.tb ht hi w (h.rl w hwm) (hr.2 w hwm)) rfl rfl rfl (by simp only [dstOk, Nat.reduceLT]) (by repeat (first | exact trivial | constructor)) (runs_eval tab_ok ?_))
          · first | trivial | omega | (repeat (first | omega | constructor))
          simp only [ev0, evA, evB, evP, fl, gp, tab, simprocAttr, ll_length, ll_get hkl, hw, h.rel i hi w hwm]
          refine fin_run ?_ (hK _ ?_) <;> clear hK <;> clear K
          · first | trivial | omega | (repeat (first | omega | constructor))
          refine qa ?_
          refine hk_cond rfl (fun hC10 => ?_) (fun hC10 => ?_)
          · (try simp only [nhs] at hC10)
            simp at hC10
          · (try simp only [nhs] at hC10)
            refine qh (qd (qa ?_))
            refine hk_region fun K hK => runs_eval tab_ok ?_
            simp only [ev0, evA, evB, evP, fl, gp, tab, simprocAttr]
            refine fin_run ?_ (hK _ ?_) <;> clear hK <;> clear K
            · (first | exact trivial | omega | (simp only [In64] at *; omega) | (simp [In64] at *; omega) | (simp_all; done) | skip)
            refine qa ?_
            refine ⟨k + 1, [], by omega, by omega, by simp only [leq, leA, ev0, evA, evB, evP, fl, gp, tab, simprocAttr] <;> first | trivial | trace_state⟩
        · (try simp only [nhs] at hC9)
          refine qj (qc (qc (qf (qd (qa ?_)))))
          refine hk_region fun K hK => runs_eval tab_ok ?_
          simp only [ev0, evA, evB, evP, fl, gp, tab, simprocAttr]
          refine fin_run ?_ (hK _ ?_) <;> clear hK <;> clear K
          · (first | exact trivial | omega | (simp only [In64] at *; omega) | (simp [In64] at *; omega) | (simp_all; done) | skip)
          refine qa ?_
          refine ⟨i + 1, [], by omega, by omega, by simp only [leq, leA, ev0, evA, evB, evP, fl, gp, tab, simprocAttr] <;> first | trivial | trace_state⟩
    · (try simp only [nhs] at hC6)
      refine qj (qc (qc (qf (qa (qm (qm ?_))))))
      refine hk_region fun K hK => runs_eval tab_ok ?_
      simp only [ev0, evA, evB, evP, fl, gp, tab, simprocAttr]
      refine fin_run trivial (hK _ ?_) <;> clear hK <;> clear K
      refine qa (ql ?_)
      refine hk_loop (ι := Nat) (fun k => ⟨160, [(0, .p (.list (ll t))), (3, .p (.list (ll subs))), (15, .p (.int .i64 (k : Nat)))], []⟩) (fun k => k ≤ subs.length) (fun k => subs.length - k) 0 (Nat.zero_le _) [] (by simp only [leq, leA, ev0, evA, evB, evP, fl, gp, tab, simprocAttr] <;> trivial) fun k hk => ?_
      refine qm (qm ?_)
      refine hk_region fun K hK => runs_eval tab_ok ?_
      simp only [ev0, evA, evB, evP, fl, gp, tab, simprocAttr, ll_length]
      refine fin_run trivial (hK _ ?_) <;> clear hK <;> clear K
      refine qa ?_
      refine hk_cond rfl (fun hC11 => ?_) (fun hC11 => ?_)
      · (try simp only [nhs] at hC11)
        have hkl : k < subs.length := by omega
        obtain ⟨w, hw⟩ : ∃ w, subs.getD k [] = w := ⟨_, rfl⟩
        have hwm : w ∈ subs := hw ▸ getD_mem' hkl
        refine qh (qa (qm (ql (qm ?_))))
        refine hk_region fun K hK => runs_eval tab_ok ?_
        simp only [ev0, evA, evB, evP, fl, gp, tab, simprocAttr, ll_length, ll_get hkl, hw, h.sub w hwm]
        refine fin_stop ?_ (runs_call (led_c hm t h.tb ht h0 w (h.sl w hwm) (hs.2 w hwm)) rfl rfl rfl (by simp only [dstOk, Nat.reduceLT]) (by repeat (first | exact trivial | constructor)) (runs_eval tab_ok ?_))
        · first | trivial | omega | (repeat (first | omega | constructor))
        simp only [ev0, evA, evB, evP, fl, gp, tab, simprocAttr, ll_length, ll_get hkl, hw, h.sub w hwm]
        refine fin_run ?_ (hK _ ?_) <;> clear hK <;> clear K
        · first | trivial | omega | (repeat (first | omega | constructor))
        refine qa ?_
        refine hk_cond rfl (fun hC12 => ?_) (fun hC12 => ?_)
        · (try simp only [nhs] at hC12)
          simp at hC12
        · (try simp only [nhs] at hC12)
          refine qh (qd (qa ?_))
          refine hk_region fun K hK => runs_eval tab_ok ?_
          simp only [ev0, evA, evB, evP, fl, gp, tab, simprocAttr]
          refine fin_run ?_ (hK _ ?_) <;> clear hK <;> clear K
          · (first | exact trivial | omega | (simp only [In64] at *; omega) | (simp [In64] at *; omega) | (simp_all; done) | skip)
          refine qa ?_
          refine ⟨k + 1, [], by omega, by omega, by simp only [leq, leA, ev0, evA, evB, evP, fl, gp, tab, simprocAttr] <;> first | trivial | trace_state⟩
      · (try simp only [nhs] at hC11)
        refine qj (qc (qc (qf (qa (qm ?_)))))
        refine hk_region fun K hK => runs_eval tab_ok ?_
        simp only [ev0, evA, evB, evP, fl, gp, tab, simprocAttr]
        refine fin_run trivial (hK _ ?_) <;> clear hK <;> clear K
        refine qa (qk ?_)
        simp only [Try.results45, enA, ev0, evA, evB, evP, fl, gp, tab, simprocAttr]
        all_goals ((first | exact rfl | exact ⟨rfl, rfl⟩ | exact ⟨rfl, rfl, rfl⟩ | exact ⟨trivial, rfl⟩ | exact ⟨Nat.le_refl _, rfl⟩ | trivial | (simp; done)))
end Go.Proofs.Ytneglephfhiamaa

namespace Go.Pv
open Go.RowKit
theorem runs2_appendNn {P : Program} {T : TypeId → Option TI} {s : St} (hT : ∀ t ti, T t = some ti → tiOf P t = some ti) {all : Array Oper} {rest : List Oper} {K : St → List I2 → Prop} {acc : List I2} {dst : Option Tmp} {ty : TypeId} {pos : String} {aft : Array Edge} {gd : Option (Nat × Bool)} {t : TypeId} {x y : Operand}
    {ti te : TI} {e : TypeId} {l : List PV} (ht : T t = some ti) (hk : ti.kind = .slice e) (hte : T e = some te) (hsz : te.size = 1 ∧ te.zero.length = 1) (hx : s.ev x = .p (.nn [])) (hy : s.ev y = .p (.nn l))
    (hg : guardA all s { dst := dst, op := .call { callee := .builtin .append, args := #[x, y], argTypes := #[t, t] }, type := ty, pos := pos, after := aft, guard := gd } = some true) (hd : dstOk s dst) (hl : l.all PV.one = true) (h0 : 0 < l.length) (hb : l.length * te.bytes ≤ 140737488355328 ∧ l.length ≤ 9223372036854775807)
    (h : Runs2 P all rest K (({ s with H := s.H ++ [.own (opl l)] } : St).put dst (.sl s.H.length 0 l.length)) (acc ++ [⟨.nw s.H.length, .sl s.H.length 0 l.length, .own (opl l), true⟩])) :
    Runs2 P all ({ dst := dst, op := .call { callee := .builtin .append, args := #[x, y], argTypes := #[t, t] }, type := ty, pos := pos, after := aft, guard := gd } :: rest) K s acc := by
  obtain ⟨s', xs, hr, hK⟩ := h
  have pure : ∀ (q : Nat) (hq : q < (opl l).length), ∃ v, (opl l)[q] = .p v := fun q hq => ⟨l[q]'(by simpa [opl] using hq), by simp [opl]⟩
  refine ⟨s', ⟨.nw s.H.length, .sl s.H.length 0 l.length, .own (opl l), true⟩ :: xs, .op hg (dstOk_spec hd) ⟨rfl, ?_⟩ (fun _ c hc q hq κ => by
    cases List.mem_singleton.1 (show Blk.own c ∈ [Blk.own (opl l)] from hc)
    obtain ⟨v, e⟩ := pure q hq
    rw [e]
    exact .p _) hr, by rw [List.append_assoc] at hK; exact hK⟩
  intro s2 hn ha hdd n1 n2 n3
  have hx2 : s2.ev x = .p (.nn []) := by rw [← hx]; exact ha x (by simp [Op.operands, Call.operands])
  have hy2 : s2.ev y = .p (.nn l) := by rw [← hy]; exact ha y (by simp [Op.operands, Call.operands])
  have hol : (opl l).length = l.length := opl_length l
  have hm : appendA T ti s2.H (s2.ev x) (s2.ev y) = some ⟨(te.size = 1 ∧ te.zero.length = 1) ∧ (l.all PV.one = true) ∧ (opl l).all cellOk = true ∧ ([] : List PV).all PV.one = true ∧ 0 < (opl l).length ∧ (([] : List PV).length + (opl l).length) * te.bytes ≤ 140737488355328 ∧ ([] : List PV).length + (opl l).length ≤ 9223372036854775807, .sl s2.H.length 0 (([] : List PV).length + (opl l).length), s2.H ++ [.own (([] : List PV).map .p ++ opl l)]⟩ := by
    rw [hx2, hy2]
    simp only [appendA, hk, hte, elemsA]
    rfl
  refine Does.wp fun C m a w R => ?_
  obtain ⟨v, w', m', hyi, R', hv⟩ := appendA_does hT R (o := { dst := dst, op := .call { callee := .builtin .append, args := #[x, y], argTypes := #[t, t] }, type := ty, pos := pos, after := aft, guard := gd }) rfl ht hm ⟨hsz, hl, opl_ok hl, rfl, by rw [hol]; exact h0, by rw [hol]; simpa using hb.1, by rw [hol]; simpa using hb.2⟩
  obtain ⟨g1, _, g2⟩ := Rel.move R (b := .own (opl l)) R' hdd n3 (fun _ _ h => by cases h) n1 n2 fun c hc i hi => by
    cases hc
    obtain ⟨v, e⟩ := pure i hi
    rw [e]
    exact ⟨.p _, .p _⟩
  have h3 := g2 _ _ v hv
  simp only [List.length_nil, Nat.zero_add, hol] at h3
  exact ⟨v, w', _, hyi, g1, h3⟩
end Go.Pv

namespace Go.Pv
open Go.RowKit
section
variable {P : Program} {C : Ctx} {m : Map} {s : St} {tmps : Array Value} {w : World}
end
end Go.Pv

namespace Go.Pv
open Go.RowKit
section
variable {P : Program} {T : TypeId → Option TI} {s : St}
end
end Go.Pv

namespace Go.Proofs.Ytneglephfhiamaa
open Go.Pv
end Go.Proofs.Ytneglephfhiamaa

namespace Go.Pv
open Go.RowKit
def nl : List Int → PV
  | [] => .nn []
  | x :: r => .list (il (x :: r))
theorem nl_cons (l : List Int) (x : Int) : nl (l ++ [x]) = .list (il (l ++ [x])) := by
  cases l <;> rfl
theorem nl_list {ok : Nat → Prop} {w : World} {l : List Int} {x : Value} (h : Reads ok w (nl l) x) : Reads ok w (.list (il l)) x := by
  cases l with
  | nil => exact Reads.nn_list h
  | cons => exact h
section
variable {P : Program} {T : TypeId → Option TI} {s : St}
theorem appendNn00_does (hT : ∀ t ti, T t = some ti → tiOf P t = some ti) {o : Oper} {t : TypeId} {x y : Operand} (ho : o.op = .call { callee := .builtin .append, args := #[x, y], argTypes := #[t, t] }) {ti te : TI} (ht : T t = some ti) {e : TypeId} (hk : ti.kind = .slice e) (hte : T e = some te) (hsz : te.size = 1)
    {l : List PV} (hx : s.ev x = .p (.nn l)) (hy : s.ev y = .p (.nn [])) : DoesW P o s (.p (.nn l)) s.H := by
  intro C m a w K Q R hK
  obtain ⟨dst, op, type, pos, after, guard⟩ := o
  simp only at ho
  subst ho
  have hu := ti_slice (hT _ _ ht) hk
  obtain ⟨i, d, z, h1, h2, h3, h4, h5, h6, h7, h8⟩ := tiOf_parts (hT _ _ hte)
  have h := R.ev x
  rw [hx] at h
  have hl := h.p_inv
  obtain ⟨ad, hv⟩ : ∃ ad, a.eval x = .slice (some ad) l.length l.length := by
    generalize a.eval x = v at hl
    rcases hl.nn_inv with ⟨rfl, ad, rfl⟩ | ⟨b, off, sz, vs, rfl, _⟩
    · exact ⟨ad, rfl⟩
    · exact ⟨_, rfl⟩
  have hy' := R.ev y
  rw [hy] at hy'
  have hy' := hy'.p_inv
  obtain ⟨ad2, cap2, hv2⟩ : ∃ ad2 cap2, a.eval y = .slice ad2 0 cap2 := by
    generalize a.eval y = v at hy'
    rcases hy'.nn_inv with ⟨_, ad, rfl⟩ | ⟨b, off, sz, vs, rfl, _⟩
    · exact ⟨_, _, rfl⟩
    · exact ⟨_, _, rfl⟩
  have hr := append_nothing (P := P) (w := w) type hu h1 (by rw [h4, hsz]) (ad := some ad) (n := l.length) (cap := l.length) (x := .slice ad2 0 cap2) src_nil (Nat.le_refl _)
  have hrun : (execOp a.eval { dst := dst, op := .call { callee := .builtin .append, args := #[x, y], argTypes := #[t, t] }, type := type, pos := pos, after := after, guard := guard }).run P w = .ok (.value (.slice (some ad) l.length l.length)) w := by
    simp only [BigFrame.execOp_builtin, BigFrame.builtin_append, List.map_toArray, List.map_cons, List.map_nil, hv, hv2, Sem.run_bind, hr, Result.andThen_ok, Sem.run_pure]
  refine opR_of_wp (by first | rfl | (rw [ho]; rfl)) ?_
  unfold Oper.wp
  rw [hrun]
  rw [hv] at hl
  exact hK _ m w R (.p _ _ hl)
end
end Go.Pv

namespace Go.Proofs.Ytneglephfhiamaa
open Go.Pv
theorem FnG_pure {P : Program} {f : FuncId} {args : List PV} {r : PV} (h : FnG P f args (.p r) []) : FnC P f args r :=
  ⟨h.1, fun okA w vals h1 h2 h3 => (h.2 okA w vals h1 h2 h3).mono fun e w' ⟨v, m', he, hbl, ho⟩ => ⟨v, he, hbl, ho.val.p_inv.mono fun b hb => ⟨hb.1, hb.2.1⟩⟩⟩
theorem clone_nil : FnG Try.prog 77 [.nn []] (.p (.nn [])) [] := by
  refine fng_of tab_ok Try.func77 rfl (by kernel_rfl) (by rw [Try.ntmps77]; exact Nat.le_add_left 1 _) ?_; rw [Try.ntmps77]
  refine qm ?_
  refine hk_region fun K hK => runs_eval tab_ok ?_
  simp only [ev0, evA, evB, evP, fl, gp, tab, simprocAttr]
  refine fin_run trivial (hK _ ?_) <;> clear hK <;> clear K
  refine qa (qm (qm ?_))
  refine hk_region fun K hK => runs_eval tab_ok ?_
  simp only [ev0, evA, evB, evP, fl, gp, tab, simprocAttr]
  refine fin_run trivial (hK _ ?_) <;> clear hK <;> clear K
  refine qa ?_
  refine hk_cond rfl (fun hC1 => ?_) (fun hC1 => ?_)
  · (try simp only [nhs] at hC1)
    cases hC1
  · (try simp only [nhs] at hC1)
    refine qh (qa (qm ?_))
    refine hk_region fun K hK => runs_at 2 (runs_eval tab_ok ?_)
    simp only [List.take_succ_cons, List.take_zero]
    simp only [ev0, evA, evB, evP, fl, gp, tab, simprocAttr]
    refine fin_run trivial ?_
    refine runs_op (appendNn00_does tab_ok rfl rfl rfl rfl rfl rfl rfl) rfl (by simp only [dstOk]; decide) (runs_eval tab_ok ?_)
    simp only [ev0, evA, evB, evP, fl, gp, tab, simprocAttr]
    refine fin_run trivial (hK _ ?_) <;> clear hK <;> clear K
    refine qa (qk ?_)
    simp only [Try.results77, PostG, endG, rvsA, rvA, mkTup, ev0, evA, evB, evP, fl, gp, tab, simprocAttr]
    all_goals (exact ⟨[], rfl, rfl, by simp only [leq, leA, ev0, evA, evB, evP, fl, gp, tab, simprocAttr] <;> trivial⟩)
theorem clone_n (w : List Int) (hl : w.length ≤ 1000000000) : FnC Try.prog 77 [nl w] (nl w) := by
  cases w with
  | nil => exact FnG_pure clone_nil
  | cons c r => exact clone_c (c :: r) hl
end Go.Proofs.Ytneglephfhiamaa

namespace Go.Proofs.Ytneglephfhiamaa
open Go.Pv
def grR (n : Int) (rels : List (List Int)) : PV :=
  if (lkF n [rels, []]).1 ≠ 0 then .tup [gp 0 [], .list [], fl (lkF n [rels, []])] else
  match csO n.toNat rels [] 60 with
  | none => .tup [gp 0 [], .list [], fl (9, 0)]
  | some T => .tup [gp T.length (mulT T (wayS T n.toNat)), .list (il (mkT T n.toNat)), fl (0, 0)]
theorem cloneG_c (v : List Int) (h0 : v ≠ []) (hl : v.length ≤ 1000000) : FnG Try.prog 77 [.list (il v)] (.sl 0 0 v.length) [.own (ol v)] := by
  have hp : 0 < v.length := List.length_pos_iff.2 h0
  refine fng_of tab_ok Try.func77 rfl (by kernel_rfl) (by rw [Try.ntmps77]; exact Nat.le_add_left 1 _) ?_; rw [Try.ntmps77]
  refine qm ?_
  refine hk_region fun K hK => runs_eval tab_ok ?_
  simp only [ev0, evA, evB, evP, fl, gp, tab, simprocAttr]
  refine fin_run trivial (hK _ ?_) <;> clear hK <;> clear K
  refine qa (qm (qm ?_))
  refine hk_region fun K hK => runs_eval tab_ok ?_
  simp only [ev0, evA, evB, evP, fl, gp, tab, simprocAttr]
  refine fin_run ?_ (hK _ ?_) <;> clear hK <;> clear K
  · simp [il, h0]
  refine qa ?_
  refine hk_cond rfl (fun hC1 => ?_) (fun hC1 => ?_)
  · cases hC1
  · (try simp only [nhs] at hC1)
    refine qh (qa (qm ?_))
    refine hk_region fun K hK => runs_eval tab_ok ?_
    simp only [ev0, evA, evB, evP, fl, gp, tab, simprocAttr]
    refine fin_run ?_ (hK _ ?_) <;> clear hK <;> clear K
    · (first | exact trivial | omega | (simp only [In64] at *; omega) | (simp [In64] at *; omega) | (simp_all; done) | skip)
    refine qa (qk ?_)
    simp only [Try.results77, PostG, endG, rvsA, rvA, mkTup, ev0, evA, evB, evP, fl, gp, tab, simprocAttr]
    refine ⟨[0], rfl, rfl, rfl, by simp, ⟨⟨?_, ol_sc _ _⟩, trivial⟩, trivial⟩
    rw [ol_ren, take_len]
theorem Rle.nilL : Rle .nil (.list []) := fun _ _ _ h => h.nil_list
theorem cosets0_c (n : Int) (rels : List (List Int)) (hr : rels.length ≤ 1000000000 ∧ ∀ w ∈ rels, w.length ≤ 1000000000) :
    FnC Try.prog 43 [.int .i64 n, .list (ll rels), .nil, .int .i64 60] (csR n rels [] 60) :=
  FnC.weak (cosets_c n rels [] 60 hr ⟨by simp, fun w hw => by simp at hw⟩) ⟨Rle.rfl, Rle.rfl, Rle.nilL, Rle.rfl, trivial⟩
def wyL (ws : List (List Int)) (N : Nat) : List AV := ws.map (fun w => .p (nl w)) ++ List.replicate (N - ws.length) (.p .nil)
theorem wyL_len {ws : List (List Int)} {N : Nat} (h : ws.length ≤ N) : (wyL ws N).length = N := by simp [wyL]; omega
theorem wyL_lo {ws : List (List Int)} {N u : Nat} (h : u < ws.length) (d : AV) : (wyL ws N).getD u d = .p (nl (ws.getD u [])) := by
  unfold wyL
  rw [List.getD_eq_getElem?_getD, List.getElem?_append_left (by simpa using h), List.getElem?_map, List.getElem?_eq_getElem h, List.getD_eq_getElem?_getD, List.getElem?_eq_getElem h]; rfl
theorem wyL_at {ws : List (List Int)} {N : Nat} (h : ws.length < N) (d : AV) : (wyL ws N).getD ws.length d = .p .nil := by
  unfold wyL
  rw [List.getD_eq_getElem?_getD, List.getElem?_append_right (by simp), List.length_map, Nat.sub_self, List.getElem?_replicate, if_pos (by omega)]; rfl
theorem wyL_set {ws : List (List Int)} {N : Nat} (h : ws.length < N) (w : List Int) : (wyL ws N).set ws.length (.p (nl w)) = wyL (ws ++ [w]) N := by
  unfold wyL
  rw [List.set_append_right _ _ (by simp), List.length_map, Nat.sub_self, show N - ws.length = (N - (ws ++ [w]).length) + 1 by simp; omega, List.replicate_succ, List.set_cons_zero]
  simp
theorem wyL_sc (L : Nat) (ws : List (List Int)) (N : Nat) : (wyL ws N).all (scA L) = true := by
  unfold wyL
  rw [List.all_append, Bool.and_eq_true]
  exact ⟨List.all_eq_true.2 fun x hx => (by obtain ⟨w, _, rfl⟩ := List.mem_map.1 hx; rfl), List.all_eq_true.2 fun x hx => (by rw [List.eq_of_mem_replicate hx]; rfl)⟩
theorem hG_sc (ws : List (List Int)) (N : Nat) : ∀ b ∈ ([.own [.p (.int .i64 0), .p .nil], .own [.p (.int .i64 0), .p (.int .i64 0)], .own [.p (.int .i64 0), .p (.int .i64 0)], .own (wyL ws N)] : Heap), hsc 4 b = true := fun b hb => by
  simp only [List.mem_cons, List.not_mem_nil, or_false] at hb
  rcases hb with rfl | rfl | rfl | rfl
  · rfl
  · rfl
  · rfl
  · exact wyL_sc _ _ _
theorem le_G4 {S s : St} {A B C D : Blk} {X : Heap} (hn : S.n = s.n) (hS : S.H = [A, B, C, D]) (hH : s.H = A :: B :: C :: D :: X) (hsc4 : ∀ b ∈ ([A, B, C, D] : Heap), hsc 4 b = true) (hsl : ∀ p ∈ S.sl, s.get p.1 = p.2 ∧ scA 4 p.2 = true) : Le [0, 1, 2, 3] S s := by
  have := le_stay (S := S) (s := s) (B := [A, B, C, D]) hn rfl hS hsc4 (fun i hi => by
    rw [hH]
    rcases (show i = 0 ∨ i = 1 ∨ i = 2 ∨ i = 3 by simp at hi; omega) with rfl | rfl | rfl | rfl <;> rfl) (LeS_same hsl)
  exact this
theorem hM_sc (ws : List (List Int)) (N : Int) (M : List Int) : ∀ b ∈ ([.own [.p (.int .i64 0), .p .nil], .own [.p (.int .i64 0), .p (.int .i64 0)], .own [.p (.int .i64 0), .p (.int .i64 0)], .fro (ll ws), .own [.p (.int .i64 N), .sl 5 0 M.length], .own (ol M)] : Heap), hsc 6 b = true := fun b hb => by
  simp only [List.mem_cons, List.not_mem_nil, or_false] at hb
  rcases hb with rfl | rfl | rfl | rfl | rfl | rfl
  · rfl
  · rfl
  · rfl
  · rfl
  · rfl
  · exact ol_sc _ _
theorem hM_sc7 (ws : List (List Int)) (N : Int) (M K : List Int) : ∀ b ∈ ([.own [.p (.int .i64 0), .p .nil], .own [.p (.int .i64 0), .p (.int .i64 0)], .own [.p (.int .i64 0), .p (.int .i64 0)], .fro (ll ws), .own [.p (.int .i64 N), .sl 5 0 M.length], .own (ol M), .own (ol K)] : Heap), hsc 7 b = true := fun b hb => by
  simp only [List.mem_cons, List.not_mem_nil, or_false] at hb
  rcases hb with rfl | rfl | rfl | rfl | rfl | rfl | rfl
  · rfl
  · rfl
  · rfl
  · rfl
  · rfl
  · exact ol_sc _ _
  · exact ol_sc _ _
set_option maxHeartbeats 4000000 in
theorem group_no (n : Int) (rels : List (List Int)) (f : Int × Int) (hc : FnC Try.prog 43 [.int .i64 n, .list (ll rels), .nil, .int .i64 60] (.tup [.list [], fl f])) (hf : f.1 ≠ 0) : FnC Try.prog 46 [.int .i64 n, .list (ll rels)] (.tup [gp 0 [], .list [], fl f]) := by
  refine fnc_of tab_ok Try.func46 rfl (by kernel_rfl) (by rw [Try.ntmps46]; exact Nat.le_add_left 2 _) ?_; rw [Try.ntmps46]
  refine qm ?_
  refine hk_region fun K hK => runs_eval tab_ok ?_
  simp only [ev0, evA, evB, evP, fl, gp, tab, simprocAttr]
  refine fin_run ?_ (hK _ ?_) <;> clear hK <;> clear K
  · (first | exact trivial | omega | (simp only [In64] at *; omega) | (simp [In64] at *; omega) | (simp_all; done) | skip)
  refine qa (qm ?_)
  refine hk_region fun K hK => runs_eval tab_ok ?_
  simp only [ev0, evA, evB, evP, fl, gp, tab, simprocAttr]
  refine fin_stop trivial (runs_call (hc) rfl rfl rfl (by simp only [dstOk, Nat.reduceLT]) (by repeat (first | exact trivial | constructor)) (runs_eval tab_ok ?_))
  simp only [ev0, evA, evB, evP, fl, gp, tab, simprocAttr]
  refine fin_run ?_ (hK _ ?_) <;> clear hK <;> clear K
  · (first | exact trivial | omega | (simp only [In64] at *; omega) | (simp [In64] at *; omega) | (simp_all; done) | skip)
  refine qa (qm (qm ?_))
  refine hk_region fun K hK => runs_eval tab_ok ?_
  simp only [ev0, evA, evB, evP, fl, gp, tab, simprocAttr]
  refine fin_run ?_ (hK _ ?_) <;> clear hK <;> clear K
  · (first | exact trivial | omega | (simp only [In64] at *; omega) | (simp [In64] at *; omega) | (simp_all; done) | skip)
  refine qa ?_
  refine hk_cond rfl (fun hC1 => ?_) (fun hC1 => ?_)
  · (try simp only [nhs] at hC1)
    refine qm ?_
    refine hk_draw2 mixed fun K hK => runs2_eval tab_ok ?_
    simp only [evD, ev0, evA, evB, evP, fl, gp, tab, simprocAttr]
    refine fin2_run ?_ (hK _ _ (by first | kernel_rfl | rfl) ?_) <;> clear hK <;> clear K
    · (first | exact trivial | omega | (simp only [In64] at *; omega) | (simp [In64] at *; omega) | (simp_all; done) | skip)
    refine qa (qk (qb ?_))
    simp only [Try.results46, enA, ev0, evA, evB, evP, fl, gp, tab, simprocAttr]
    all_goals ((first | exact rfl | exact ⟨rfl, rfl⟩ | exact ⟨rfl, rfl, rfl⟩ | exact ⟨trivial, rfl⟩ | exact ⟨Nat.le_refl _, rfl⟩ | trivial | (simp; done)))
  · (try simp only [nhs] at hC1)
    exact absurd hC1 hf
set_option maxHeartbeats 8000000 in
set_option maxRecDepth 20000 in
theorem group_ok {m : Nat} (hm : 1 ≤ m ∧ m ≤ 6) (rels T : List (List Int)) (hc : FnC Try.prog 43 [.int .i64 m, .list (ll rels), .nil, .int .i64 60] (.tup [.list (ll T), fl (0, 0)])) (tk : TabOk m T rels []) (t0 : 0 < T.length) (t60 : T.length ≤ 60) :
    FnC Try.prog 46 [.int .i64 m, .list (ll rels)] (.tup [gp T.length (mulT T (wayS T m)), .list (il (mkT T m)), fl (0, 0)]) := by
  obtain ⟨wa1, wa2⟩ := wayS_ok tk t0
  obtain ⟨N, hN⟩ : ∃ N, T.length = N := ⟨_, rfl⟩
  rw [hN] at t0 t60 wa2
  refine fnc_of tab_ok Try.func46 rfl (by kernel_rfl) (by rw [Try.ntmps46]; exact Nat.le_add_left 2 _) ?_; rw [Try.ntmps46]
  refine qm ?_
  refine hk_region fun K hK => runs_eval tab_ok ?_
  simp only [ev0, evA, evB, evP, fl, gp, tab, simprocAttr]
  refine fin_run ?_ (hK _ ?_) <;> clear hK <;> clear K
  · (first | exact trivial | omega | (simp only [In64] at *; omega) | (simp [In64] at *; omega) | (simp_all; done) | skip)
  refine qa (qm ?_)
  refine hk_region fun K hK => runs_eval tab_ok ?_
  simp only [ev0, evA, evB, evP, fl, gp, tab, simprocAttr]
  refine fin_stop trivial (runs_call (hc) rfl rfl rfl (by simp only [dstOk, Nat.reduceLT]) (by repeat (first | exact trivial | constructor)) (runs_eval tab_ok ?_))
  simp only [ev0, evA, evB, evP, fl, gp, tab, simprocAttr]
  refine fin_run ?_ (hK _ ?_) <;> clear hK <;> clear K
  · (first | exact trivial | omega | (simp only [In64] at *; omega) | (simp [In64] at *; omega) | (simp_all; done) | skip)
  refine qa (qm (qm ?_))
  refine hk_region fun K hK => runs_eval tab_ok ?_
  simp only [ev0, evA, evB, evP, fl, gp, tab, simprocAttr]
  refine fin_run ?_ (hK _ ?_) <;> clear hK <;> clear K
  · (first | exact trivial | omega | (simp only [In64] at *; omega) | (simp [In64] at *; omega) | (simp_all; done) | skip)
  refine qa ?_
  refine hk_cond rfl (fun hC1 => ?_) (fun hC1 => ?_)
  · (try simp only [nhs] at hC1)
    first | exact hC1.elim | exact absurd rfl hC1 | (simp at hC1; done)
  · (try simp only [nhs] at hC1)
    refine qh (qa (qm ?_))
    refine hk_region fun K hK => runs_eval tab_ok ?_
    simp only [ev0, evA, evB, evP, fl, gp, tab, simprocAttr, ll_length, hN, makeSliceA.eq_def, -List.reduceReplicate, Int.toNat_natCast]
    refine fin_run ?_ (hK _ ?_) <;> clear hK <;> clear K
    · first | trivial | omega | exact ⟨by omega, by omega, by omega⟩ | (repeat (first | omega | constructor))
    refine qa (qm ?_)
    refine hk_region fun K hK => runs_eval tab_ok ?_
    simp only [ev0, evA, evB, evP, fl, gp, tab, simprocAttr, -List.reduceReplicate]
    refine fin_run ?_ (hK _ ?_) <;> clear hK <;> clear K
    · first | trivial | omega | (simp; omega) | (repeat (first | omega | (simp; omega) | constructor))
    refine qa (qm (qm ?_))
    refine hk_region fun K hK => runs_eval tab_ok ?_
    simp only [ev0, evA, evB, evP, fl, gp, tab, simprocAttr, ll_length, hN]
    refine fin_run trivial (hK _ ?_) <;> clear hK <;> clear K
    refine qa (ql ?_)
    have hw0 : (List.replicate N (AV.p .nil)).set 0 (.p (.nn [])) = wyL [[]] N := by
      obtain ⟨M, rfl⟩ : ∃ M, N = M + 1 := ⟨N - 1, by omega⟩
      rfl
    refine hk_loop (ι := Nat × List (List Int)) (fun q => ⟨140, [(0, .p (.int .i64 (m : Nat))), (4, .ptr 0 0), (6, .ptr 1 0), (7, .p (.list (ll T))), (8, .ptr 2 0), (9, .sl 3 0 N), (39, .p (.int .i64 (N : Nat))), (40, .p (.int .i64 (q.1 : Nat)))], [.own [.p (.int .i64 0), .p .nil], .own [.p (.int .i64 0), .p (.int .i64 0)], .own [.p (.int .i64 0), .p (.int .i64 0)], .own (wyL (q.2) N)]⟩) (fun q => q.1 ≤ N ∧ WaOk m T q.2 ∧ nxT q.2.length q.1 (T.drop q.1) ∧ (List.range' q.1 (N - q.1)).foldl (fun ws i => wayR T m i ws) q.2 = wayS T m) (fun q => N - q.1) (0, [[]]) ⟨Nat.zero_le _, ⟨by simp, by simp; omega, fun j hj => ?_⟩, by simpa using tk.nx, ?_⟩ [0, 1, 2, 3] ?_ fun q hq => ?_
    · have : j = 0 := by simp at hj; omega
      subst this
      exact ⟨fun x hx => by simp at hx, rfl, by simp⟩
    · rw [Nat.sub_zero, ← List.range_eq_range', ← hN]; rfl
    · rw [hw0]
      exact le_same rfl rfl (hG_sc _ _) (by simp [St.get, lk, scA, sc1])
    obtain ⟨i, ws⟩ := q
    obtain ⟨q1, q2, q3, q4⟩ := hq
    simp only at q1 q2 q3 q4 ⊢
    refine qm ?_
    refine hk_region fun K hK => runs_eval tab_ok ?_
    simp only [ev0, evA, evB, evP, fl, gp, tab, simprocAttr]
    refine fin_run trivial (hK _ ?_) <;> clear hK <;> clear K
    refine qa (qm ?_)
    refine hk_cond rfl (fun hC2 => ?_) (fun hC2 => ?_)
    · (try simp only [nhs] at hC2)
      have hi : i < N := by omega
      have hiT : i < T.length := by omega
      obtain ⟨r, hrd⟩ : ∃ r, T.getD i [] = r := ⟨_, rfl⟩
      have hrow := (tk.tb.at hiT).1
      have hent := (tk.tb.at hiT).2
      rw [hrd] at hrow hent
      have hdr : T.drop i = r :: T.drop (i + 1) := by
        rw [List.drop_eq_getElem_cons hiT, ← hrd, List.getD_eq_getElem?_getD, List.getElem?_eq_getElem hiT]; rfl
      rw [hdr] at q3
      obtain ⟨hin, n2, q5, q6⟩ := q3
      have q7 : (List.range' (i + 1) (N - (i + 1))).foldl (fun ws i => wayR T m i ws) (wayR T m i ws) = wayS T m := by
        rw [show N - i = (N - (i + 1)) + 1 by omega, List.range'_succ, List.foldl_cons] at q4
        exact q4
      refine qh (qa (qm (ql (qm ?_))))
      refine hk_region fun K hK => runs_eval tab_ok ?_
      simp only [ev0, evA, evB, evP, fl, gp, tab, simprocAttr]
      refine fin_run trivial (hK _ ?_) <;> clear hK <;> clear K
      refine qa (qm ?_)
      refine hk_region fun K hK => runs_eval tab_ok ?_
      simp only [ev0, evA, evB, evP, fl, gp, tab, simprocAttr, ll_length, ll_get hiT, hrd, il_length, hrow]
      refine fin_run ?_ (hK _ ?_) <;> clear hK <;> clear K
      · omega
      refine qa (ql ?_)
      refine hk_loop (ι := Nat × List (List Int)) (fun q => ⟨140, [(0, .p (.int .i64 (m : Nat))), (4, .ptr 0 0), (6, .ptr 1 0), (7, .p (.list (ll T))), (8, .ptr 2 0), (9, .sl 3 0 N), (10, .p (.int .i64 (i : Nat))), (39, .p (.int .i64 (N : Nat))), (40, .p (.int .i64 (i : Nat))), (46, .p (.list (il r))), (47, .p (.int .i64 ((2 * m : Nat) : Int))), (48, .p (.int .i64 (q.1 : Nat)))], [.own [.p (.int .i64 0), .p .nil], .own [.p (.int .i64 0), .p (.int .i64 0)], .own [.p (.int .i64 0), .p (.int .i64 0)], .own (wyL (q.2) N)]⟩) (fun q => q.1 ≤ 2 * m ∧ WaOk m T q.2 ∧ i < q.2.length ∧ nxR q.2.length (r.drop q.1) = some n2 ∧ (List.range' q.1 (2 * m - q.1)).foldl (wstep T i) q.2 = wayR T m i ws) (fun q => 2 * m - q.1) (0, ws) ⟨Nat.zero_le _, q2, hin, q5, by rw [Nat.sub_zero, ← List.range_eq_range']; rfl⟩ [0, 1, 2, 3] ?_ fun q hq => ?_
      · exact le_same rfl rfl (hG_sc _ _) (by simp [St.get, lk, scA, sc1])
      clear q2 q4 q5
      obtain ⟨k, w2⟩ := q
      obtain ⟨k1, q2, q8, q9, q10⟩ := hq
      simp only at k1 q2 q8 q9 q10 ⊢
      refine qm ?_
      refine hk_region fun K hK => runs_eval tab_ok ?_
      simp only [ev0, evA, evB, evP, fl, gp, tab, simprocAttr]
      refine fin_run trivial (hK _ ?_) <;> clear hK <;> clear K
      refine qa (qm ?_)
      refine hk_cond rfl (fun hC3 => ?_) (fun hC3 => ?_)
      · (try simp only [nhs] at hC3)
        have hk : k < 2 * m := by omega
        obtain ⟨d, hd1, hd2⟩ := hent k hk
        have hkr : k < r.length := by omega
        rw [hN] at hd2
        obtain ⟨k3, k4⟩ := nxR_step q9 hkr
        rw [hd1] at k3 k4
        have q11 : (List.range' (k + 1) (2 * m - (k + 1))).foldl (wstep T i) (wstep T i w2 k) = wayR T m i ws := by
          rw [show 2 * m - k = (2 * m - (k + 1)) + 1 by omega, List.range'_succ, List.foldl_cons] at q10
          exact q10
        have hu : ((T.getD i []).getD k 0).toNat = d := by rw [hrd, hd1]; simp
        have hw2N : w2.length ≤ N := by have := q2.le; omega
        have hcase : (d < w2.length ∧ w2.getD d [] = []) ∨ (d < w2.length ∧ ∃ c rr, w2.getD d [] = c :: rr) ∨ d = w2.length := by
          rcases Nat.lt_or_ge d w2.length with h | h
          · rcases hq : w2.getD d [] with _ | ⟨c, rr⟩
            · exact .inl ⟨h, rfl⟩
            · exact .inr (.inl ⟨h, c, rr, rfl⟩)
          · exact .inr (.inr (by omega))
        refine qh (qa (qm (ql (qm ?_))))
        refine hk_region fun K hK => runs_eval tab_ok ?_
        simp only [ev0, evA, evB, evP, fl, gp, tab, simprocAttr, il_length, il_get hkr, hd1]
        refine fin_run ?_ (hK _ ?_) <;> clear hK <;> clear K
        · omega
        refine qa (qm ?_)
        rcases hcase with ⟨hdl, hwd⟩ | ⟨hdl, c, rr, hwd⟩ | hdl
        · refine hk_region fun K hK => runs_eval tab_ok ?_
          simp only [ev0, evA, evB, evP, fl, gp, tab, simprocAttr, wyL_len hw2N, wyL_lo hdl, hwd, nl, Int.toNat_natCast, Int.ofNat_eq_natCast]
          refine fin_run ?_ (hK _ ?_) <;> clear hK <;> clear K
          · first | trivial | omega | (simp [il]; done) | exact ⟨⟨by omega, by omega⟩, by simp [il]⟩ | exact ⟨by omega, by omega⟩ | (repeat (first | omega | (simp [wyL_len hw2N]; omega) | constructor))
          refine qa ?_
          refine hk_cond rfl (fun hC4 => ?_) (fun hC4 => ?_)
          · (try simp only [nhs] at hC4)
            first | exact hC4.elim | cases hC4 | (simp at hC4; done)
          · (try simp only [nhs] at hC4)
            refine qh (qd (qa ?_))
            refine hk_region fun K hK => runs_eval tab_ok ?_
            simp only [ev0, evA, evB, evP, fl, gp, tab, simprocAttr]
            refine fin_run ?_ (hK _ ?_) <;> clear hK <;> clear K
            · (first | exact trivial | omega | (simp only [In64] at *; omega) | (simp [In64] at *; omega) | (simp_all; done) | skip)
            refine qa ?_
            have e1 : wstep T i w2 k = w2 := by unfold wstep; rw [if_neg (by omega)]
            rw [e1] at q11
            rw [if_neg (by omega)] at k4
            refine ⟨(k + 1, w2), [0, 1, 2, 3], ⟨hk, q2, q8, k4, q11⟩, by simp only; omega, ?_⟩
            exact le_G4 rfl rfl rfl (hG_sc _ _) (by simp [St.get, lk, scA, sc1])
        · refine hk_region fun K hK => runs_eval tab_ok ?_
          simp only [ev0, evA, evB, evP, fl, gp, tab, simprocAttr, wyL_len hw2N, wyL_lo hdl, hwd, nl, Int.toNat_natCast, Int.ofNat_eq_natCast]
          refine fin_run ?_ (hK _ ?_) <;> clear hK <;> clear K
          · first | trivial | omega | (simp [il]; done) | exact ⟨⟨by omega, by omega⟩, by simp [il]⟩ | exact ⟨by omega, by omega⟩ | (repeat (first | omega | (simp [wyL_len hw2N]; omega) | constructor))
          refine qa ?_
          refine hk_cond rfl (fun hC4 => ?_) (fun hC4 => ?_)
          · (try simp only [nhs] at hC4)
            first | exact hC4.elim | cases hC4 | (simp at hC4; done)
          · (try simp only [nhs] at hC4)
            refine qh (qd (qa ?_))
            refine hk_region fun K hK => runs_eval tab_ok ?_
            simp only [ev0, evA, evB, evP, fl, gp, tab, simprocAttr]
            refine fin_run ?_ (hK _ ?_) <;> clear hK <;> clear K
            · (first | exact trivial | omega | (simp only [In64] at *; omega) | (simp [In64] at *; omega) | (simp_all; done) | skip)
            refine qa ?_
            have e1 : wstep T i w2 k = w2 := by unfold wstep; rw [if_neg (by omega)]
            rw [e1] at q11
            rw [if_neg (by omega)] at k4
            refine ⟨(k + 1, w2), [0, 1, 2, 3], ⟨hk, q2, q8, k4, q11⟩, by simp only; omega, ?_⟩
            exact le_G4 rfl rfl rfl (hG_sc _ _) (by simp [St.get, lk, scA, sc1])
        · have hlt : w2.length < N := by omega
          subst hdl
          refine hk_region fun K hK => runs_eval tab_ok ?_
          simp only [ev0, evA, evB, evP, fl, gp, tab, simprocAttr, wyL_len hw2N, wyL_at hlt, Int.toNat_natCast, Int.ofNat_eq_natCast]
          refine fin_run ?_ (hK _ ?_) <;> clear hK <;> clear K
          · first | trivial | omega | (simp [il]; done) | exact ⟨⟨by omega, by omega⟩, by simp [il]⟩ | exact ⟨by omega, by omega⟩ | (repeat (first | omega | (simp [wyL_len hw2N]; omega) | constructor))
          refine qa ?_
          refine hk_cond rfl (fun hC4 => ?_) (fun hC4 => ?_)
          · (try simp only [nhs] at hC4)
            have z1 : Int.tdiv (k : Int) 2 = ((k / 2 : Nat) : Int) := by rw [Int.tdiv_eq_ediv_of_nonneg (by omega)]; omega
            have z2 : Int.tdiv (-(k : Int)) 2 = -((k / 2 : Nat) : Int) := by rw [Int.neg_tdiv, z1]
            have z3 : Int.tmod (k : Int) 2 = ((k % 2 : Nat) : Int) := by rw [Int.tmod_eq_emod_of_nonneg (by omega)]; omega
            obtain ⟨wd1, wd2, wd3⟩ := q2.wd i q8
            have z4 : ([PV.int .i64 (((k / 2 : Nat) : Int) + 1), .int .i64 (-((k / 2 : Nat) : Int) - 1)] : List PV).getD (k % 2) default = .int .i64 (ltC k) := by
              unfold ltC
              rcases (show k % 2 = 0 ∨ k % 2 = 1 by omega) with h | h
              · rw [h, if_pos rfl]; rfl
              · rw [h, if_neg (by omega)]
                have : -((k / 2 + 1 : Nat) : Int) = -((k / 2 : Nat) : Int) - 1 := by omega
                rw [this]; rfl
            have e1 : wstep T i w2 k = w2 ++ [w2.getD i [] ++ [ltC k]] := by unfold wstep; rw [if_pos hu]
            have e2 : (w2 ++ [w2.getD i [] ++ [ltC k]]).length = w2.length + 1 := by simp
            have q12 := q2.step tk.tb q8 hk hu
            have e3 := wyL_set hlt (w2.getD i [] ++ [ltC k])
            rw [e1] at q11
            rw [if_pos rfl, ← e2] at k4
            rw [nl_cons] at e3
            rcases hwi : w2.getD i [] with _ | ⟨c, rr⟩
            · refine hk_draw2 mixed fun K hK => runs2_eval tab_ok ?_
              simp only [evD, ev0, evA, evB, evP, fl, gp, tab, simprocAttr, wyL_len hw2N, wyL_lo q8, hwi, nl, Int.toNat_natCast, Int.ofNat_eq_natCast, z1, z2, z3, z4]
              refine fin2_stop ?_ (runs2_call ((clone_n [] (by simp) : FnC Try.prog 77 [.nn []] (.nn []))) rfl rfl rfl rfl (by simp only [dstOk, Nat.reduceLT]) (by repeat (first | exact trivial | constructor)) (runs2_eval tab_ok ?_))
              · exact ⟨⟨by omega, by omega⟩, by omega⟩
              simp only [evD, ev0, evA, evB, evP, fl, gp, tab, simprocAttr, wyL_len hw2N, wyL_lo q8, hwi, nl, Int.toNat_natCast, Int.ofNat_eq_natCast, z1, z2, z3, z4]
              refine fin2_stop ?_ (runs2_appendNn (l := [.int .i64 (ltC k)]) tab_ok rfl rfl rfl ⟨rfl, rfl⟩ rfl rfl rfl (by simp only [dstOk, Nat.reduceLT]) rfl (Nat.le_of_ble_eq_true rfl) ⟨Nat.le_of_ble_eq_true rfl, Nat.le_of_ble_eq_true rfl⟩ (runs2_eval tab_ok ?_))
              · first | trivial | (simp only [In64, true_and, and_true]; omega)
              simp only [evD, ev0, evA, evB, evP, fl, gp, tab, simprocAttr, wyL_len hw2N, wyL_lo q8, hwi, nl, Int.toNat_natCast, Int.ofNat_eq_natCast, z1, z2, z3, z4]
              refine fin2_run ?_ (hK _ _ (by first | kernel_rfl | rfl) ?_) <;> clear hK <;> clear K
              · first | trivial | omega | (simp only [In64, true_and, and_true]; omega)
              refine qd (qa ?_)
              rw [hwi] at e3 q11 q12 k4 e2
              simp only [List.nil_append] at e3 q11 q12 k4 e2
              refine hk_freeze 4 (b := opl [.int .i64 (ltC k)]) (ps := [.int .i64 (ltC k)]) rfl rfl ?_
              refine hk_purec 3 w2.length (b := (wyL w2 N).set w2.length (.sl 4 0 1)) (x := .sl 4 0 1) rfl (by rw [List.getElem?_set_self (by rw [wyL_len hw2N]; exact hlt)]) (p := 0 + 1 ≤ 1 ∧ (([PV.int .i64 (ltC k)].drop 0).take 1).all PV.one = true) (pv := .list [.int .i64 (ltC k)]) rfl ⟨by omega, rfl⟩ ?_
              simp only [hset, List.set_set]
              have e4 : (wyL w2 N).set w2.length (.p (.list [.int .i64 (ltC k)])) = wyL (w2 ++ [[ltC k]]) N := e3
              rw [e4]
              refine hk_region fun K hK => runs_eval tab_ok ?_
              simp only [ev0, evA, evB, evP, fl, gp, tab, simprocAttr]
              refine fin_run ?_ (hK _ ?_) <;> clear hK <;> clear K
              · (first | exact trivial | omega | (simp only [In64] at *; omega) | (simp [In64] at *; omega) | (simp_all; done) | skip)
              refine qa ?_
              refine ⟨(k + 1, w2 ++ [[ltC k]]), [0, 1, 2, 3], ⟨hk, q12, by simp only; omega, k4, q11⟩, by simp only; omega, ?_⟩
              exact le_G4 rfl rfl rfl (hG_sc _ _) (by simp [St.get, lk, scA, sc1])
            · refine hk_draw2 mixed fun K hK => runs2_eval tab_ok ?_
              simp only [evD, ev0, evA, evB, evP, fl, gp, tab, simprocAttr, wyL_len hw2N, wyL_lo q8, hwi, nl, Int.toNat_natCast, Int.ofNat_eq_natCast, z1, z2, z3, z4]
              refine fin2_stop ?_ (runs2_callG (cloneG_c (c :: rr) (by simp) (by rw [hwi] at wd3; omega)) rfl rfl rfl (by simp only [dstOk, Nat.reduceLT]) (by repeat (first | exact trivial | constructor)) (runs2_eval tab_ok ?_))
              · (first | exact trivial | omega | (simp only [In64] at *; omega) | (simp [In64] at *; omega) | (simp_all; done) | skip)
              simp only [evD, ev0, evA, evB, evP, fl, gp, tab, simprocAttr, wyL_len hw2N, wyL_lo q8, hwi, nl, Int.toNat_natCast, Int.ofNat_eq_natCast, z1, z2, z3, z4]
              refine fin2_run ?_ (hK _ _ (by first | kernel_rfl | rfl) ?_) <;> clear hK <;> clear K
              · have hc1 : (opl (il (c :: rr))).all cellOk = true := by simp [opl, il, cellOk, PV.one]
                rw [hwi] at wd3
                simp only [List.length_cons] at wd3
                simp only [In64, hc1, true_and, and_true]; omega
              refine qd (qa ?_)
              rw [hwi] at e3 q11 q12 k4 e2
              refine hk_freeze 5 (b := opl (il (c :: rr) ++ [.int .i64 (ltC k)])) (ps := il (c :: rr ++ [ltC k])) rfl (by rw [show il (c :: rr) ++ [PV.int .i64 (ltC k)] = il (c :: rr ++ [ltC k]) by simp [il]]; exact ol_allP _) ?_
              refine hk_purec 3 w2.length (b := (wyL w2 N).set w2.length (.sl 5 0 (rr.length + 1 + 1))) (x := .sl 5 0 (rr.length + 1 + 1)) rfl (by rw [List.getElem?_set_self (by rw [wyL_len hw2N]; exact hlt)]) (p := 0 + (rr.length + 1 + 1) ≤ (il (c :: rr ++ [ltC k])).length ∧ (((il (c :: rr ++ [ltC k])).drop 0).take (rr.length + 1 + 1)).all PV.one = true) (pv := .list (((il (c :: rr ++ [ltC k])).drop 0).take (rr.length + 1 + 1))) rfl ⟨by simp [il_length], by rw [List.drop_zero, List.take_of_length_le (by simp [il_length])]; exact il_all _⟩ ?_
              rw [List.drop_zero, List.take_of_length_le (show (il (c :: rr ++ [ltC k])).length ≤ rr.length + 1 + 1 by simp [il_length])]
              simp only [hset, List.set_set]
              have e4 : (wyL w2 N).set w2.length (.p (.list (il (c :: rr ++ [ltC k])))) = wyL (w2 ++ [c :: rr ++ [ltC k]]) N := e3
              rw [e4]
              refine hk_region fun K hK => runs_eval tab_ok ?_
              simp only [ev0, evA, evB, evP, fl, gp, tab, simprocAttr]
              refine fin_run ?_ (hK _ ?_) <;> clear hK <;> clear K
              · (first | exact trivial | omega | (simp only [In64] at *; omega) | (simp [In64] at *; omega) | (simp_all; done) | skip)
              refine qa ?_
              refine ⟨(k + 1, w2 ++ [c :: rr ++ [ltC k]]), [0, 1, 2, 3], ⟨hk, q12, by simp only; omega, k4, q11⟩, by simp only; omega, ?_⟩
              exact le_G4 rfl rfl rfl (hG_sc _ _) (by simp [St.get, lk, scA, sc1])
          · (try simp only [nhs] at hC4)
            first | exact (hC4 rfl).elim | exact absurd rfl hC4 | cases hC4 | (simp at hC4; done)
      · (try simp only [nhs] at hC3)
        have hke : k = 2 * m := by omega
        subst hke
        rw [List.drop_eq_nil_of_le (by omega)] at q9
        have hn2 : w2.length = n2 := Option.some.inj q9
        rw [Nat.sub_self] at q10
        have hwr : w2 = wayR T m i ws := q10
        rw [← hwr] at q7
        rw [← hn2] at q6
        refine qj (qc (qc (qf (qd (qa ?_)))))
        refine hk_region fun K hK => runs_eval tab_ok ?_
        simp only [ev0, evA, evB, evP, fl, gp, tab, simprocAttr]
        refine fin_run ?_ (hK _ ?_) <;> clear hK <;> clear K
        · (first | exact trivial | omega | (simp only [In64] at *; omega) | (simp [In64] at *; omega) | (simp_all; done) | skip)
        refine qa ?_
        refine ⟨(i + 1, w2), [0, 1, 2, 3], ⟨hi, q2, q6, q7⟩, by simp only; omega, ?_⟩
        exact le_G4 rfl rfl rfl (hG_sc _ _) (by simp [St.get, lk, scA, sc1])
    · (try simp only [nhs] at hC2)
      have hie : i = N := by omega
      subst hie
      rw [Nat.sub_self] at q4
      have hws : ws = wayS T m := q4
      rw [← hws] at wa1 wa2 ⊢
      clear q2 q3 q4
      refine qj (qc (qc (qf (qa (qm ?_)))))
      refine hk_cells 3 (b := wyL ws i) (b' := opl (ll ws)) rfl (by rw [wyL_len (by omega), opl_length, ll_length]; exact wa2) (fun C mm tmps w R j h h' v hv => ?_) ?_
      · have hj : j < ws.length := by rw [opl_length, ll_length] at h'; exact h'
        have e1 : (wyL ws i)[j] = .p (nl (ws.getD j [])) := by
          have := wyL_lo (N := i) hj (.p .nil)
          rw [List.getD_eq_getElem?_getD, List.getElem?_eq_getElem h] at this
          exact this
        have e2 : (opl (ll ws))[j] = .p (.list (il (ws.getD j []))) := by
          simp [opl, ll, List.getD_eq_getElem?_getD, List.getElem?_eq_getElem hj]
        rw [e1] at hv
        rw [e2]
        exact .p _ _ (nl_list hv.p_inv)
      simp only [hset]
      refine hk_sealp 9 3 (l := ll ws) (ll_all ws) (by rw [ll_length, wa2]; rfl) rfl ?_
      simp only [hset]
      refine hk_region fun K hK => runs_eval tab_ok ?_
      simp only [ev0, evA, evB, evP, fl, gp, tab, simprocAttr, ll_length, hN]
      refine fin_run ?_ (hK _ ?_) <;> clear hK <;> clear K
      · (first | exact trivial | omega | (simp only [In64] at *; omega) | (simp [In64] at *; omega) | (simp_all; done) | skip)
      refine qa (qm (qm ?_))
      refine hk_region fun K hK => runs_eval tab_ok ?_
      simp only [ev0, evA, evB, evP, fl, gp, tab, simprocAttr, ll_length, hN]
      refine fin_run trivial (hK _ ?_) <;> clear hK <;> clear K
      refine qa (ql ?_)
      obtain ⟨M, hM⟩ : ∃ M, mulT T ws = M := ⟨_, rfl⟩
      have hMl : M.length = i * i := by rw [← hM]; unfold mulT; simp [hN]
      have hsq : i * i ≤ 3600 := Nat.mul_le_mul t60 t60
      have hMg : ∀ a b, a < i → b < i → M.getD (a * i + b) 0 = (ledT T a (ws.getD b []) : Int) ∧ a * i + b < i * i := fun a b ha hb => by
        have h1 : a * i + b < i * i := by
          have : (a + 1) * i ≤ i * i := Nat.mul_le_mul_right i ha
          rw [Nat.add_mul] at this; omega
        refine ⟨?_, h1⟩
        rw [← hM]
        unfold mulT
        rw [hN, List.getD_eq_getElem?_getD, List.getElem?_map, List.getElem?_range h1]
        have e1 : (a * i + b) / i = a := by rw [Nat.mul_comm, Nat.mul_add_div (by omega), Nat.div_eq_of_lt hb]; omega
        have e2 : (a * i + b) % i = b := by rw [Nat.mul_comm, Nat.mul_add_mod, Nat.mod_eq_of_lt hb]
        simp [e1, e2]
      rw [hM]
      refine hk_own0c 4 1 rfl rfl ?_
      simp only [List.cons_append, List.nil_append, hset, List.set_cons_succ, List.set_cons_zero, List.length_cons, List.length_nil, Nat.zero_add, Nat.reduceAdd]
      refine hk_loop (ι := Nat) (fun a => ⟨140, [(0, .p (.int .i64 (m : Nat))), (4, .ptr 0 0), (6, .ptr 1 0), (7, .p (.list (ll T))), (8, .ptr 2 0), (9, .p (.list (ll ws))), (13, .ptr 4 0), (86, .p (.int .i64 (i : Nat))), (87, .p (.int .i64 (a : Nat)))], [.own [.p (.int .i64 0), .p .nil], .own [.p (.int .i64 0), .p (.int .i64 0)], .own [.p (.int .i64 0), .p (.int .i64 0)], .fro (ll ws), .own [.p (.int .i64 i), .sl 5 0 (M.take (a * i)).length], .own (ol (M.take (a * i)))]⟩) (fun a => a ≤ i) (fun a => i - a) 0 (Nat.zero_le _) [0, 1, 2, 3, 4, 5] ?_ fun a ha => ?_
      · rw [Nat.zero_mul, List.take_zero]
        exact le_same rfl rfl (hM_sc ws (i : Int) []) (by simp [St.get, lk, scA, sc1])
      refine qm ?_
      refine hk_region fun K hK => runs_eval tab_ok ?_
      simp only [ev0, evA, evB, evP, fl, gp, tab, simprocAttr]
      refine fin_run trivial (hK _ ?_) <;> clear hK <;> clear K
      refine qa (qm ?_)
      refine hk_cond rfl (fun hC5 => ?_) (fun hC5 => ?_)
      · (try simp only [nhs] at hC5)
        have hai : a < i := by omega
        refine qh (qa (qm (ql (qm ?_))))
        refine hk_region fun K hK => runs_eval tab_ok ?_
        simp only [ev0, evA, evB, evP, fl, gp, tab, simprocAttr]
        refine fin_run trivial (hK _ ?_) <;> clear hK <;> clear K
        refine qa (qm ?_)
        refine hk_region fun K hK => runs_eval tab_ok ?_
        simp only [ev0, evA, evB, evP, fl, gp, tab, simprocAttr, ll_length, hN]
        refine fin_run trivial (hK _ ?_) <;> clear hK <;> clear K
        refine qa (ql ?_)
        have htk0 : M.take (a * i) = M.take (a * i + 0) := rfl
        refine hk_loop (ι := Nat) (fun b => ⟨140, [(0, .p (.int .i64 (m : Nat))), (4, .ptr 0 0), (6, .ptr 1 0), (7, .p (.list (ll T))), (8, .ptr 2 0), (9, .p (.list (ll ws))), (13, .ptr 4 0), (14, .p (.int .i64 (a : Nat))), (86, .p (.int .i64 (i : Nat))), (87, .p (.int .i64 (a : Nat))), (91, .p (.int .i64 (i : Nat))), (92, .p (.int .i64 (b : Nat)))], [.own [.p (.int .i64 0), .p .nil], .own [.p (.int .i64 0), .p (.int .i64 0)], .own [.p (.int .i64 0), .p (.int .i64 0)], .fro (ll ws), .own [.p (.int .i64 i), .sl 5 0 (M.take (a * i + b)).length], .own (ol (M.take (a * i + b)))]⟩) (fun b => b ≤ i) (fun b => i - b) 0 (Nat.zero_le _) [0, 1, 2, 3, 4, 5] ?_ fun b hb => ?_
        · exact le_same rfl rfl (hM_sc _ _ _) (by simp [St.get, lk, scA, sc1])
        refine qm ?_
        refine hk_region fun K hK => runs_eval tab_ok ?_
        simp only [ev0, evA, evB, evP, fl, gp, tab, simprocAttr]
        refine fin_run trivial (hK _ ?_) <;> clear hK <;> clear K
        refine qa (qm ?_)
        refine hk_cond rfl (fun hC6 => ?_) (fun hC6 => ?_)
        · (try simp only [nhs] at hC6)
          have hbi : b < i := by omega
          obtain ⟨hmg, hml⟩ := hMg a b hai hbi
          have hbw : b < ws.length := by omega
          obtain ⟨w, hw⟩ : ∃ w, ws.getD b [] = w := ⟨_, rfl⟩
          obtain ⟨wd1, wd2, wd3⟩ := wa1.wd b hbw
          rw [hw] at wd1 wd2 wd3 hmg
          refine qh (qa (qm (ql (qm ?_))))
          refine hk_region fun K hK => runs_eval tab_ok ?_
          simp only [ev0, evA, evB, evP, fl, gp, tab, simprocAttr]
          refine fin_run trivial (hK _ ?_) <;> clear hK <;> clear K
          refine qa (qm ?_)
          refine hk_region fun K hK => runs_eval tab_ok ?_
          simp only [ev0, evA, evB, evP, fl, gp, tab, simprocAttr]
          refine fin_run trivial (hK _ ?_) <;> clear hK <;> clear K
          refine qa (qm (qm ?_))
          refine hk_region fun K hK => runs_eval tab_ok ?_
          simp only [ev0, evA, evB, evP, fl, gp, tab, simprocAttr, ll_length, ll_get hbw, hw, il_length]
          refine fin_run ?_ (hK _ ?_) <;> clear hK <;> clear K
          · omega
          refine qa (ql ?_)
          refine hk_loop (ι := Nat × Nat) (fun q => ⟨140, [(0, .p (.int .i64 (m : Nat))), (4, .ptr 0 0), (6, .ptr 1 0), (7, .p (.list (ll T))), (8, .ptr 2 0), (9, .p (.list (ll ws))), (13, .ptr 4 0), (14, .p (.int .i64 (a : Nat))), (16, .p (.int .i64 (q.2 : Nat))), (86, .p (.int .i64 (i : Nat))), (87, .p (.int .i64 (a : Nat))), (91, .p (.int .i64 (i : Nat))), (92, .p (.int .i64 (b : Nat))), (99, .p (.list (il w))), (100, .p (.int .i64 w.length)), (101, .p (.int .i64 (q.1 : Nat)))], [.own [.p (.int .i64 0), .p .nil], .own [.p (.int .i64 0), .p (.int .i64 0)], .own [.p (.int .i64 0), .p (.int .i64 0)], .fro (ll ws), .own [.p (.int .i64 i), .sl 5 0 (M.take (a * i + b)).length], .own (ol (M.take (a * i + b)))]⟩) (fun q => q.1 ≤ w.length ∧ q.2 < i ∧ ledT T q.2 (w.drop q.1) = ledT T a w) (fun q => w.length - q.1) (0, a) ⟨Nat.zero_le _, hai, rfl⟩ [0, 1, 2, 3, 4, 5] ?_ fun q hq => ?_
          · exact le_same rfl rfl (hM_sc _ _ _) (by simp [St.get, lk, scA, sc1])
          obtain ⟨p, v⟩ := q
          obtain ⟨p1, p2, p3⟩ := hq
          simp only at p1 p2 p3 ⊢
          refine qm ?_
          refine hk_region fun K hK => runs_eval tab_ok ?_
          simp only [ev0, evA, evB, evP, fl, gp, tab, simprocAttr]
          refine fin_run trivial (hK _ ?_) <;> clear hK <;> clear K
          refine qa (qm ?_)
          refine hk_cond rfl (fun hC7 => ?_) (fun hC7 => ?_)
          · (try simp only [nhs] at hC7)
            have hp : p < w.length := by omega
            obtain ⟨x, hx⟩ : ∃ x, w.getD p 0 = x := ⟨_, rfl⟩
            have hxl := wd1 x (hx ▸ getD_mem' hp)
            have hdrw : w.drop p = x :: w.drop (p + 1) := by
              rw [List.drop_eq_getElem_cons hp, ← hx, List.getD_eq_getElem?_getD, List.getElem?_eq_getElem hp]; rfl
            rw [hdrw, ledT] at p3
            obtain ⟨cc, hcc⟩ := Int.eq_ofNat_of_zero_le (cI_lt hxl.1 hxl.2.1 hxl.2.2).1
            have hcc2 := (cI_lt hxl.1 hxl.2.1 hxl.2.2).2
            have hvT : v < T.length := by omega
            obtain ⟨s1, s2⟩ := tk.tb.st hvT hxl
            have hrowv := (tk.tb.at hvT).1
            rw [hcc, Int.toNat_natCast] at s1 hcc2
            refine qh (qa (qm (ql (qm ?_))))
            refine hk_region fun K hK => runs_eval tab_ok ?_
            simp only [ev0, evA, evB, evP, fl, gp, tab, simprocAttr, il_length, il_get hp, hx]
            refine fin_run ?_ (hK _ ?_) <;> clear hK <;> clear K
            · omega
            refine qa ?_
            refine hk_draw mixed (by kernel_rfl) fun K hK => runs_eval tab_ok ?_
            simp only [ev0, evA, evB, evP, fl, gp, tab, simprocAttr, ll_length, ll_get hvT, il_length, hcc, Int.toNat_natCast, Int.ofNat_eq_natCast, il_get (show cc < (T.getD v []).length by omega), s1]
            refine fin_stop ?_ (runs_call (col_c (by omega)) rfl rfl rfl (by simp only [dstOk, Nat.reduceLT]) (by repeat (first | exact trivial | constructor)) (runs_eval tab_ok ?_))
            · (repeat (first | omega | (simp only [In64]; omega) | constructor))
            simp only [ev0, evA, evB, evP, fl, gp, tab, simprocAttr, ll_length, ll_get hvT, il_length, hcc, Int.toNat_natCast, Int.ofNat_eq_natCast, il_get (show cc < (T.getD v []).length by omega), s1]
            refine fin_run ?_ (hK _ ?_) <;> clear hK <;> clear K
            · (repeat (first | trivial | omega | (simp only [In64]; omega) | constructor))
            refine qd (qa ?_)
            refine hk_region fun K hK => runs_eval tab_ok ?_
            simp only [ev0, evA, evB, evP, fl, gp, tab, simprocAttr]
            refine fin_run ?_ (hK _ ?_) <;> clear hK <;> clear K
            · (first | exact trivial | omega | (simp only [In64] at *; omega) | (simp [In64] at *; omega) | (simp_all; done) | skip)
            refine qa ?_
            refine ⟨(p + 1, stT T v x), [0, 1, 2, 3, 4, 5], ⟨hp, by simp only; omega, p3⟩, by simp only; omega, ?_⟩
            exact le_same rfl rfl (hM_sc _ _ _) (by simp [St.get, lk, scA, sc1])
          · (try simp only [nhs] at hC7)
            have hpe : p = w.length := by omega
            rw [hpe, List.drop_length] at p3
            have hva : (v : Int) = M.getD (a * i + b) 0 := by rw [hmg, ← p3]; rfl
            have htk : M.take (a * i + (b + 1)) = M.take (a * i + b) ++ [(v : Int)] := by
              rw [← Nat.add_assoc, take_snoc (d := 0) (by omega), hva]
            have hlk : (M.take (a * i + b)).length = a * i + b := by rw [List.length_take]; omega
            have htt : List.take (a * i + b) (ol (M.take (a * i + b))) = ol (M.take (a * i + b)) := List.take_of_length_le (by rw [ol_length, hlk]; exact Nat.le_refl _)
            rw [hlk]
            refine qj (qc (qc (qf (qa ?_))))
            refine hk_region fun K hK => runs_eval tab_ok ?_
            simp only [ev0, evA, evB, evP, fl, gp, tab, simprocAttr, htt, ol_length, hlk]
            refine fin_run ?_ (hK _ ?_) <;> clear hK <;> clear K
            · (repeat (first | trivial | omega | (simp; omega) | constructor))
            refine qd (qa ?_)
            refine hk_region fun K hK => runs_eval tab_ok ?_
            simp only [ev0, evA, evB, evP, fl, gp, tab, simprocAttr]
            refine fin_run ?_ (hK _ ?_) <;> clear hK <;> clear K
            · (first | exact trivial | omega | (simp only [In64] at *; omega) | (simp [In64] at *; omega) | (simp_all; done) | skip)
            refine qa ?_
            refine ⟨b + 1, [0, 1, 2, 3, 4, 6], by omega, by omega, ?_⟩
            rw [htk]
            refine ⟨rfl, by decide, ⟨⟨rfl, rfl⟩, ⟨rfl, rfl⟩, ⟨rfl, rfl⟩, rfl, ⟨?_, rfl⟩, ⟨?_, ol_sc _ _⟩, trivial⟩, leS_p rfl (leS_ptr rfl rfl (by decide) (leS_ptr rfl rfl (by decide) (leS_p rfl (leS_ptr rfl rfl (by decide) (leS_p rfl (leS_ptr rfl rfl (by decide) (leS_p rfl (leS_p rfl (leS_p rfl (leS_p rfl (leS_p rfl trivial)))))))))))⟩
            · rw [List.length_append, hlk]; rfl
            · rw [ol_ren]
              have e : ol (M.take (a * i + b) ++ [(v : Int)]) = ol (M.take (a * i + b)) ++ [.p (.int .i64 (v : Nat))] := by simp [ol, il]
              rw [e, List.take_of_length_le (Nat.le_refl _)]
        · (try simp only [nhs] at hC6)
          have hbe : b = i := by omega
          have htk : M.take (a * i + b) = M.take ((a + 1) * i) := by rw [hbe, Nat.add_mul, Nat.one_mul]
          rw [htk]
          refine qj (qc (qc (qf (qd (qa ?_)))))
          refine hk_region fun K hK => runs_eval tab_ok ?_
          simp only [ev0, evA, evB, evP, fl, gp, tab, simprocAttr]
          refine fin_run ?_ (hK _ ?_) <;> clear hK <;> clear K
          · (first | exact trivial | omega | (simp only [In64] at *; omega) | (simp [In64] at *; omega) | (simp_all; done) | skip)
          refine qa ?_
          refine ⟨a + 1, [0, 1, 2, 3, 4, 5], by omega, by omega, ?_⟩
          exact le_same rfl rfl (hM_sc _ _ _) (by simp [St.get, lk, scA, sc1])
      · (try simp only [nhs] at hC5)
        have hae : a = i := by omega
        have htk : M.take (a * i) = M := by rw [hae]; exact List.take_of_length_le (by omega)
        rw [htk]
        refine qj (qc (qc (qf (qa (qm ?_)))))
        refine hk_region fun K hK => runs_eval tab_ok ?_
        simp only [ev0, evA, evB, evP, fl, gp, tab, simprocAttr]
        refine fin_run trivial (hK _ ?_) <;> clear hK <;> clear K
        refine qa (qm (qm ?_))
        refine hk_own0 19 rfl ?_
        refine hk_region fun K hK => runs_eval tab_ok ?_
        simp only [ev0, evA, evB, evP, fl, gp, tab, simprocAttr]
        refine fin_run trivial (hK _ ?_) <;> clear hK <;> clear K
        refine qa (ql ?_)
        obtain ⟨K1, hK1⟩ : ∃ K, mkT T m = K := ⟨_, rfl⟩
        have hKl : K1.length = m := by rw [← hK1]; simp [mkT]
        have hKg : ∀ x, x < m → K1.getD x 0 = (stT T 0 ((x + 1 : Nat) : Int) : Int) := fun x hx => by
          rw [← hK1]
          unfold mkT
          rw [List.getD_eq_getElem?_getD, List.getElem?_map, List.getElem?_range hx]; rfl
        rw [hK1]
        refine hk_loop (ι := Nat) (fun x => ⟨140, [(0, .p (.int .i64 (m : Nat))), (4, .ptr 0 0), (6, .ptr 1 0), (7, .p (.list (ll T))), (8, .ptr 2 0), (13, .ptr 4 0), (19, .sl 6 0 (K1.take (x - 1)).length), (20, .p (.int .i64 (x : Nat)))], [.own [.p (.int .i64 0), .p .nil], .own [.p (.int .i64 0), .p (.int .i64 0)], .own [.p (.int .i64 0), .p (.int .i64 0)], .fro (ll ws), .own [.p (.int .i64 i), .sl 5 0 M.length], .own (ol M), .own (ol (K1.take (x - 1)))]⟩) (fun x => 1 ≤ x ∧ x ≤ m + 1) (fun x => m + 1 - x) 1 ⟨Nat.le_refl _, by omega⟩ [0, 1, 2, 3, 4, 5, 6] ?_ fun x hx => ?_
        · exact le_same rfl rfl (hM_sc7 ws (i : Int) M []) (by simp [St.get, lk, scA, sc1])
        obtain ⟨x1, x2⟩ := hx
        refine qm (qm ?_)
        refine hk_region fun K hK => runs_eval tab_ok ?_
        simp only [ev0, evA, evB, evP, fl, gp, tab, simprocAttr]
        refine fin_run trivial (hK _ ?_) <;> clear hK <;> clear K
        refine qa ?_
        refine hk_cond rfl (fun hC8 => ?_) (fun hC8 => ?_)
        · (try simp only [nhs] at hC8)
          have hxm : x ≤ m := by omega
          have hxl : (x : Int) ≠ 0 ∧ -(m : Int) ≤ x ∧ (x : Int) ≤ m := ⟨by omega, by omega, by omega⟩
          obtain ⟨cc, hcc⟩ := Int.eq_ofNat_of_zero_le (cI_lt hxl.1 hxl.2.1 hxl.2.2).1
          have hcc2 := (cI_lt hxl.1 hxl.2.1 hxl.2.2).2
          have h0T : 0 < T.length := by omega
          obtain ⟨s1, s2⟩ := tk.tb.st h0T hxl
          have hrow0 := (tk.tb.at h0T).1
          rw [hcc, Int.toNat_natCast] at s1 hcc2
          have hlx : (K1.take (x - 1)).length = x - 1 := by rw [List.length_take]; omega
          have htt : List.take (x - 1) (ol (K1.take (x - 1))) = ol (K1.take (x - 1)) := List.take_of_length_le (by rw [ol_length, hlx]; exact Nat.le_refl _)
          have htk2 : K1.take (x + 1 - 1) = K1.take (x - 1) ++ [(stT T 0 (x : Int) : Int)] := by
            have e := hKg (x - 1) (by omega)
            rw [show x - 1 + 1 = x by omega] at e
            rw [show x + 1 - 1 = (x - 1) + 1 by omega, take_snoc (d := 0) (by omega), e]
          rw [hlx]
          refine qh (qa (qm (ql ?_)))
          refine hk_draw2 mixed fun K hK => runs2_eval tab_ok ?_
          simp only [evD, ev0, evA, evB, evP, fl, gp, tab, simprocAttr, ll_length, ll_get h0T, il_length, hcc, Int.toNat_natCast, Int.ofNat_eq_natCast, il_get (show cc < (T.getD 0 []).length by omega), s1, htt, ol_length, hlx]
          refine fin2_stop ?_ (runs2_call (col_c (by omega)) rfl rfl rfl rfl (by simp only [dstOk, Nat.reduceLT]) (by repeat (first | exact trivial | constructor)) (runs2_eval tab_ok ?_))
          · (repeat (first | omega | (simp only [In64]; omega) | constructor))
          simp only [evD, ev0, evA, evB, evP, fl, gp, tab, simprocAttr, ll_length, ll_get h0T, il_length, hcc, Int.toNat_natCast, Int.ofNat_eq_natCast, il_get (show cc < (T.getD 0 []).length by omega), s1, htt, ol_length, hlx]
          refine fin2_run ?_ (hK _ _ (by first | kernel_rfl | rfl) ?_) <;> clear hK <;> clear K
          · (repeat (first | trivial | omega | (simp; omega) | (simp only [In64]; omega) | constructor))
          refine qd (qa ?_)
          refine hk_region fun K hK => runs_eval tab_ok ?_
          simp only [ev0, evA, evB, evP, fl, gp, tab, simprocAttr]
          refine fin_run ?_ (hK _ ?_) <;> clear hK <;> clear K
          · (first | exact trivial | omega | (simp only [In64] at *; omega) | (simp [In64] at *; omega) | (simp_all; done) | skip)
          refine qa ?_
          refine ⟨x + 1, [0, 1, 2, 3, 4, 5, 7], ⟨by omega, by omega⟩, by omega, ?_⟩
          rw [htk2]
          refine ⟨rfl, by decide, ⟨⟨rfl, rfl⟩, ⟨rfl, rfl⟩, ⟨rfl, rfl⟩, rfl, ⟨rfl, rfl⟩, ⟨?_, ol_sc _ _⟩, ⟨?_, ol_sc _ _⟩, trivial⟩, leS_p rfl (leS_ptr rfl rfl (by decide) (leS_ptr rfl rfl (by decide) (leS_p rfl (leS_ptr rfl rfl (by decide) (leS_ptr rfl rfl (by decide) (leS_sl (p := 7) ?_ rfl (by decide) (leS_p rfl trivial)))))))⟩
          · rw [ol_ren]; exact (List.take_of_length_le (Nat.le_refl _)).symm
          · rw [ol_ren]
            have e : ol (K1.take (x - 1) ++ [(stT T 0 (x : Int) : Int)]) = ol (K1.take (x - 1)) ++ [.p (.int .i64 (stT T 0 (x : Int) : Nat))] := by simp [ol, il]
            rw [e, List.take_of_length_le (Nat.le_refl _)]
          · rw [List.length_append, hlx]; rfl
        · (try simp only [nhs] at hC8)
          have hxe : x = m + 1 := by omega
          have htk2 : K1.take (x - 1) = K1 := List.take_of_length_le (by omega)
          rw [htk2]
          refine qj (qc (qc (qf (qa (qm ?_)))))
          refine hk_seal 19 6 (w := K1) rfl rfl ?_
          refine hk_freeze 5 (b := ol M) (ps := il M) rfl (ol_allP M) ?_
          refine hk_purec 4 1 (b := [.p (.int .i64 i), .sl 5 0 M.length]) (x := .sl 5 0 M.length) rfl rfl (p := 0 + M.length ≤ (il M).length ∧ (((il M).drop 0).take M.length).all PV.one = true) (pv := .list (((il M).drop 0).take M.length)) rfl ⟨by simp [il_length], by rw [List.drop_zero, List.take_of_length_le (by simp [il_length])]; exact il_all _⟩ ?_
          rw [List.drop_zero, List.take_of_length_le (show (il M).length ≤ M.length by simp [il_length])]
          simp only [hset, List.set_cons_succ, List.set_cons_zero]
          refine hk_draw2 mixed fun K hK => runs2_eval tab_ok ?_
          simp only [evD, ev0, evA, evB, evP, fl, gp, tab, simprocAttr]
          refine fin2_run ?_ (hK _ _ (by first | kernel_rfl | rfl) ?_) <;> clear hK <;> clear K
          · (first | exact trivial | omega | (simp only [In64] at *; omega) | (simp [In64] at *; omega) | (simp_all; done) | skip)
          refine qa (qk ?_)
          simp only [Try.results46, enA, ev0, evA, evB, evP, fl, gp, tab, simprocAttr]
          all_goals (rw [hN])
theorem group_c (n : Int) (rels : List (List Int)) (hr : rels.length ≤ 1000000000 ∧ ∀ w ∈ rels, w.length ≤ 1000000000) : FnC Try.prog 46 [.int .i64 n, .list (ll rels)] (grR n rels) := by
  have hc := cosets0_c n rels hr
  unfold grR
  unfold csR at hc
  by_cases h1 : (lkF n [rels, []]).1 ≠ 0
  · rw [if_pos h1] at hc ⊢
    exact group_no n rels _ hc h1
  · rw [if_neg h1] at hc ⊢
    rw [if_neg (by omega)] at hc
    obtain ⟨hn, hlk, hok⟩ := lkF_ok (Classical.not_not.1 h1)
    obtain ⟨m, rfl⟩ := Int.eq_ofNat_of_zero_le (show 0 ≤ n by omega)
    have hrl := hok rels (by simp)
    rw [Int.toNat_natCast] at hrl ⊢
    rw [Int.toNat_natCast, show (60 : Int).toNat = 60 from rfl] at hc
    have hm : 1 ≤ m ∧ m ≤ 6 := by omega
    cases ho : csO m rels [] 60 with
    | none =>
      rw [ho] at hc
      exact group_no _ rels (9, 0) hc (by decide)
    | some T =>
      rw [ho] at hc
      obtain ⟨tk, t0, t60⟩ := csO_ok (by omega) (fun w hw => (hrl.2.2 w hw).1) (fun w hw => by simp at hw) ho
      exact group_ok hm rels T hc tk t0 t60
def s3r : List (List Int) := [[1, 1, 1], [2, 2], [1, 2, 1, 2]]
theorem s3_gr : ∃ M K, grR 2 s3r = .tup [gp 6 M, .list (il K), fl (0, 0)] := by
  have h1 : (lkF 2 [s3r, []]).1 = 0 := by decide
  have h2 := csO_s3
  unfold grR
  rw [if_neg (by rw [h1]; simp)]
  rw [show (2 : Int).toNat = 2 from rfl]
  cases ho : csO 2 s3r [] 60 with
  | none =>
    rw [show (csO 2 [[1, 1, 1], [2, 2], [1, 2, 1, 2]] [] 60) = csO 2 s3r [] 60 from rfl, ho] at h2
    cases h2
  | some T =>
    rw [show (csO 2 [[1, 1, 1], [2, 2], [1, 2, 1, 2]] [] 60) = csO 2 s3r [] 60 from rfl, ho] at h2
    have h3 : T.length = 6 := Option.some.inj h2
    exact ⟨mulT T (wayS T 2), mkT T 2, by simp only [h3]; rfl⟩
theorem Rle.nn3l' {a b c : List PV} : Rle (.nn [.nn a, .nn b, .nn c]) (.list [.list a, .list b, .list c]) := fun ok w v h => by
  cases h with
  | nn _ k off sz vs hb hsz hc hr =>
    refine .list [.list a, .list b, .list c] k off 3 1 vs hb (by simp [PV.cells]) (by simp) (fun i hc' => hc i (by simpa [flat, PV.cells] using hc')) fun i hcl => ?_
    have h0 := hr 0 (by simp [flat, PV.cells])
    have h1 := hr 1 (by simp [flat, PV.cells])
    have h2 := hr 2 (by simp [flat, PV.cells])
    match i, hcl with
    | 0, _ => exact Reads.nn_list h0
    | 1, _ => exact Reads.nn_list h1
    | 2, _ => exact Reads.nn_list h2
theorem groupS3_c (M K : List Int) (h : grR 2 s3r = .tup [gp 6 M, .list (il K), fl (0, 0)]) : FnC Try.prog 46 [.int .i64 2, .nn [.nn [.int .i64 1, .int .i64 1, .int .i64 1], .nn [.int .i64 2, .int .i64 2], .nn [.int .i64 1, .int .i64 2, .int .i64 1, .int .i64 2]]] (.tup [gp 6 M, .list (il K), fl (0, 0)]) := by
  have := group_c 2 s3r ⟨by decide, by decide⟩
  rw [h] at this
  exact FnC.weak this ⟨Rle.rfl, Rle.nn3l', trivial⟩
set_option maxHeartbeats 4000000 in
theorem presBegun_c : FnC Try.prog 41 [] (.bool true) := by
  obtain ⟨M, K, h⟩ := s3_gr
  have hg := groupS3_c M K h
  refine fnc_of tab_ok Try.func41 rfl (by kernel_rfl) (by rw [Try.ntmps41]; exact Nat.le_add_left 0 _) ?_; rw [Try.ntmps41]
  refine qm ?_
  refine hk_region fun K hK => runs_eval tab_ok ?_
  simp only [ev0, evA, evB, evP, fl, gp, tab, simprocAttr]
  refine fin_run trivial (hK _ ?_) <;> clear hK <;> clear K
  refine qa (qm ?_)
  refine hk_region fun K hK => runs_eval tab_ok ?_
  simp only [ev0, evA, evB, evP, fl, gp, tab, simprocAttr]
  refine fin_stop trivial (runs_call (hg) rfl rfl rfl (by simp only [dstOk, Nat.reduceLT]) (by repeat (first | exact trivial | constructor)) (runs_eval tab_ok ?_))
  simp only [ev0, evA, evB, evP, fl, gp, tab, simprocAttr]
  refine fin_run ?_ (hK _ ?_) <;> clear hK <;> clear K
  · (first | exact trivial | omega | (simp only [In64] at *; omega) | (simp [In64] at *; omega) | (simp_all; done) | skip)
  refine qa (qm ?_)
  refine hk_region fun K hK => runs_eval tab_ok ?_
  simp only [ev0, evA, evB, evP, fl, gp, tab, simprocAttr]
  refine fin_run ?_ (hK _ ?_) <;> clear hK <;> clear K
  · (first | exact trivial | omega | (simp only [In64] at *; omega) | (simp [In64] at *; omega) | (simp_all; done) | skip)
  refine qa (qk ?_)
  simp only [Try.results41, enA, ev0, evA, evB, evP, fl, gp, tab, simprocAttr]
  all_goals ((first | exact rfl | exact ⟨rfl, rfl⟩ | exact ⟨rfl, rfl, rfl⟩ | exact ⟨trivial, rfl⟩ | exact ⟨Nat.le_refl _, rfl⟩ | trivial | (simp; done)))
end Go.Proofs.Ytneglephfhiamaa

namespace Go.Pv
open Go.RowKit Go.ChangeShapes Go.WideShapes Go.ChangeAt
section
variable {H : Type} {enc : TypeId × Value → H} {P : Program}
theorem weightsAll_mem {e : TypeId} {f : Nat → Bool} : ∀ {l : List (DataW H)}, (DataW.weightsAll P e l).all f = true → ∀ d ∈ l, (d.weights P e).all f = true
  | [], _, d, hd => by simp at hd
  | x :: r, h, d, hd => by
    simp only [DataW.weightsAll, List.all_append, Bool.and_eq_true] at h
    rcases List.mem_cons.1 hd with rfl | hd
    · exact h.1
    · exact weightsAll_mem h.2 d hd
theorem wcells_one {W : World} {base : Nat} {a : Addr} {u : Value} (h : W.cells? base a 1 = some [u]) : W.cell? a = some u := by
  unfold World.cells? at h
  split at h
  · simp only [List.range_succ, List.range_zero, List.nil_append, List.mapM_cons, List.mapM_nil, Option.bind_eq_bind, Option.pure_def, Option.bind_eq_some_iff] at h
    obtain ⟨v, hv, l, hl, e⟩ := h
    simp only [Option.some.injEq] at hl e
    subst hl
    simp only [List.cons.injEq, and_true] at e
    subst e
    have : a.add 0 = a := by cases a; simp [Addr.add]
    rwa [this] at hv
  · cases h
theorem open_ll {t e ti : TypeId} {W : World} {base : Nat} {v : Value} {d : DataW H} {p : List MemPlace} (ht : P.underlying t = some (.slice e)) (he : P.underlying e = some (.slice ti)) (hti : P.underlying ti = some (.int .i64)) (hce : P.cellsOf e = 1) (hc : P.cellsOf ti = 1)
    (hbe : P.bytesOf e = 24) (hby : P.bytesOf ti = 8) (hval : Value.okWide P W .any base t v) (h : DataW.Trod enc P W 0 (fun _ => true) true t v d p) (hw : (d.weights P t).all (· ≤ reachBytes) = true) :
    ∃ ls : List (List Int), (∀ w ∈ ls, w.length ≤ 17592186043904) ∧ ls.length ≤ 17592186043904 ∧ Reads (fun b => b < W.heap.size) W (.list (ll ls)) v := by
  obtain ⟨a0, len0, cap0, rfl⟩ := okWide_slice ht hval
  obtain ⟨fuel, hf⟩ := h
  rcases DataW.trod_slice ht hf with ⟨hcs, hx⟩ | ⟨a, len, cap, elems, rest, n, _, hcs, hx, hb, hle, hmax, hlen, hel, _, _⟩
  · simp [Value.cells] at hcs
    obtain ⟨rfl, rfl, rfl⟩ := hcs
    exact ⟨[], fun x hx => by simp at hx, Nat.zero_le _, .list0 none 0 fun _ => rfl⟩
  · simp [Value.cells] at hcs
    obtain ⟨rfl, rfl, rfl⟩ := hcs
    simp only [Prod.mk.injEq] at hx
    obtain ⟨rfl, rfl⟩ := hx
    simp only [DataW.weights, ht, hbe, List.all_cons, List.all_append, Bool.and_eq_true, decide_eq_true_eq, List.length_map] at hw
    obtain ⟨hw1, hw2, _⟩ := hw
    unfold reachBytes at hw1
    have each : ∀ i, ∃ xs : List Int, ∃ u : Value, i < len0 → W.cell? (a.add i) = some u ∧ xs.length ≤ 17592186043904 ∧ Reads (fun b => b < W.heap.size) W (.list (il xs)) u := by
      intro i
      by_cases hi : i < len0
      · have h1 := hel i hi
        rw [hce, Nat.mul_one, List.getElem?_eq_getElem (show i < elems.length by omega)] at h1
        obtain ⟨cs, hcs, htr⟩ := Option.bind_eq_some_iff.1 h1
        have hwi := weightsAll_mem hw2 (elems[i]'(by omega)).1 (List.mem_map.2 ⟨_, List.getElem_mem _, rfl⟩)
        obtain ⟨xs, u, rfl, _, g2, g3⟩ := il_of_trod he hti hc hby htr hwi
        exact ⟨xs, u, fun _ => ⟨wcells_one hcs, g2, g3⟩⟩
      · exact ⟨[], undef, fun h => absurd h hi⟩
    obtain ⟨fx, hfx⟩ := Classical.skolem.1 each
    obtain ⟨fu, hfu⟩ := Classical.skolem.1 hfx
    refine ⟨(List.range len0).map fx, fun w hw => ?_, by rw [List.length_map, List.length_range]; omega, ?_⟩
    · obtain ⟨i, hi, rfl⟩ := List.mem_map.1 hw
      exact (hfu i (List.mem_range.1 hi)).2.1
    · have hlen' : (ll ((List.range len0).map fx)).length = len0 := by rw [ll_length, List.length_map, List.length_range]
      by_cases h0 : len0 = 0
      · subst h0
        exact .list0 _ _ fun h => by cases h
      · obtain ⟨b, off, spot⟩ := a
        have hspot : spot = none := by simpa [Addr.add] using World.cell?_spot (hfu 0 (by omega)).1
        subst hspot
        have hone : ∀ x ∈ ll ((List.range len0).map fx), x.cells.length = 1 := by
          intro x hx
          obtain ⟨y, _, rfl⟩ := List.mem_map.1 hx
          rfl
        have hfl : flat (ll ((List.range len0).map fx)) = ll ((List.range len0).map fx) := flat_all_one (ll_all _)
        have hcell' : ∀ c, c < len0 → W.cell? ⟨b, off + c, none⟩ = some (fu c) := fun c hc => by rw [← Go.WideShapes.add_plain]; exact (hfu c hc).1
        have := Reads.list (ok := fun b => b < W.heap.size) (w := W) (ll ((List.range len0).map fx)) b off cap0 1 fu ?_ hone (by rw [hlen']; exact hle) (fun c hcl => ?_) (fun c hcl => ?_)
        · rwa [hlen'] at this
        · have := hcell' 0 (by omega)
          simp only [World.cell?] at this
          by_cases hb : b < W.heap.size
          · exact hb
          · rw [Array.getElem?_eq_none (by omega)] at this
            simp at this
        · rw [hfl, hlen'] at hcl
          exact hcell' c hcl
        · simp only [hfl]
          have hcl2 : c < len0 := by rw [hfl, hlen'] at hcl; exact hcl
          have e : (ll ((List.range len0).map fx))[c]'(by rw [hlen']; exact hcl2) = .list (il (fx c)) := by
            simp [ll]
          rw [e]
          exact (hfu c hcl2).2.2
end
end Go.Pv

namespace Go.Proofs.Ytneglephfhiamaa
open Go.Pv
theorem letters2_c (A B : List (List Int)) (ha : A.length ≤ 1000000000) (hb : B.length ≤ 1000000000) (h : ltT [A, B] ≤ 4000000000000000000) : FnC Try.prog 42 [.nn [.list (ll A), .list (ll B)]] (.int .i64 (ltT [A, B])) :=
  FnC.weak (letters_c2 [A, B] (by simp) (fun l hl => by
    simp only [List.mem_cons, List.not_mem_nil, or_false] at hl
    rcases hl with rfl | rfl
    · exact ha
    · exact hb) h) ⟨Rle.nn, trivial⟩
theorem presFault2_c (n : Int) (rels subs : List (List Int)) (hr : rels.length ≤ 1000000000 ∧ ∀ w ∈ rels, w.length ≤ 1000000000) (hs : subs.length ≤ 1000000000 ∧ ∀ w ∈ subs, w.length ≤ 1000000000) : FnC Try.prog 44 [.int .i64 n, .nn [.list (ll rels), .list (ll subs)]] (fl (lkF n [rels, subs])) := FnC.weak (presFault_c n [rels, subs] (szl2 hr hs)) ⟨Rle.rfl, Rle.nn, trivial⟩
theorem tot_le_mul : ∀ (L : List (List Int)) (b : Nat), (∀ w ∈ L, w.length ≤ b) → tot L ≤ L.length * b
  | [], b, _ => by simp [tot]
  | w :: L, b, h => by
    rw [tot_cons2, List.length_cons, Nat.add_mul]
    have := tot_le_mul L b fun v hv => h v (by simp [hv])
    have := h w (by simp)
    omega
theorem cs_cases (n : Int) (rels subs : List (List Int)) (mo : Int) :
    ((lkF n [rels, subs]).1 ≠ 0 ∧ csR n rels subs mo = .tup [.list [], fl (lkF n [rels, subs])]) ∨
    (lkF n [rels, subs] = (0, 0) ∧ (mo < 1 ∨ 1000 < mo) ∧ csR n rels subs mo = .tup [.list [], fl (3, 4)]) ∨
    (lkF n [rels, subs] = (0, 0) ∧ (1 ≤ mo ∧ mo ≤ 1000) ∧ csR n rels subs mo = .tup [.list [], fl (9, 0)]) ∨
    (lkF n [rels, subs] = (0, 0) ∧ (1 ≤ mo ∧ mo ≤ 1000) ∧ ∃ (m : Nat) (T : List (List Int)), n = m ∧ (1 ≤ m ∧ m ≤ 6) ∧ csR n rels subs mo = .tup [.list (ll T), fl (0, 0)] ∧ TabOk m T rels subs ∧ 0 < T.length ∧ (T.length : Int) ≤ mo) := by
  unfold csR
  by_cases h1 : (lkF n [rels, subs]).1 ≠ 0
  · exact .inl ⟨h1, by rw [if_pos h1]⟩
  · obtain ⟨hn, hlk, hok⟩ := lkF_ok (Classical.not_not.1 h1)
    rw [if_neg h1]
    by_cases h2 : mo < 1 ∨ 1000 < mo
    · exact .inr (.inl ⟨hlk, h2, by rw [if_pos h2]⟩)
    · rw [if_neg h2]
      obtain ⟨m, rfl⟩ := Int.eq_ofNat_of_zero_le (show 0 ≤ n by omega)
      rw [Int.toNat_natCast]
      have hrl := hok rels (by simp)
      have hsl := hok subs (by simp)
      rw [Int.toNat_natCast] at hrl hsl
      cases ho : csO m rels subs mo.toNat with
      | none => exact .inr (.inr (.inl ⟨hlk, by omega, rfl⟩))
      | some T =>
        obtain ⟨tk, t0, tl⟩ := csO_ok (by omega) (fun w hw => (hrl.2.2 w hw).1) (fun w hw => (hsl.2.2 w hw).1) ho
        exact .inr (.inr (.inr ⟨hlk, by omega, m, T, rfl, by omega, rfl, tk, t0, by omega⟩))
set_option maxHeartbeats 4000000 in
theorem presCosets_c (n : Int) (rels subs : List (List Int)) (mo : Int) (hr : rels.length ≤ 100000000000000 ∧ ∀ w ∈ rels, w.length ≤ 100000000000000) (hs : subs.length ≤ 100000000000000 ∧ ∀ w ∈ subs, w.length ≤ 100000000000000) : FnC Try.prog 11 [.int .i64 n, .list (ll rels), .list (ll subs), .int .i64 mo] (.bool true) := by
  refine fnc_of tab_ok Try.func11 rfl (by kernel_rfl) (by rw [Try.ntmps11]; exact Nat.le_add_left 4 _) ?_; rw [Try.ntmps11]
  refine qm ?_
  refine hk_region fun K hK => runs_eval tab_ok ?_
  simp only [ev0, evA, evB, evP, fl, gp, tab, simprocAttr]
  refine fin_run trivial (hK _ ?_) <;> clear hK <;> clear K
  refine qa (qm (qm ?_))
  refine hk_region fun K hK => runs_eval tab_ok ?_
  simp only [ev0, evA, evB, evP, fl, gp, tab, simprocAttr]
  refine fin_stop trivial (runs_call (presBegun_c) rfl rfl rfl (by simp only [dstOk, Nat.reduceLT]) (by repeat (first | exact trivial | constructor)) (runs_eval tab_ok ?_))
  simp only [ev0, evA, evB, evP, fl, gp, tab, simprocAttr]
  refine fin_run trivial (hK _ ?_) <;> clear hK <;> clear K
  refine qa ?_
  refine hk_cond rfl (fun hC1 => ?_) (fun hC1 => ?_)
  · (try simp only [nhs] at hC1)
    first | exact hC1.elim | cases hC1 | (simp at hC1; done)
  · (try simp only [nhs] at hC1)
    refine qh (qa (qm (qm ?_)))
    by_cases g3a : (rels.length : Int) > 100
    · refine hk_region fun K hK => runs_eval tab_ok ?_
      simp only [ev0, evA, evB, evP, fl, gp, tab, simprocAttr, ll_length, decide_eq_true g3a]
      refine fin_run trivial (hK _ ?_) <;> clear hK <;> clear K
      refine qa ?_
      refine hk_cond rfl (fun hC2 => ?_) (fun hC2 => ?_)
      · refine qm ?_
        refine hk_region fun K hK => runs_eval tab_ok ?_
        simp only [ev0, evA, evB, evP, fl, gp, tab, simprocAttr]
        refine fin_run trivial (hK _ ?_) <;> clear hK <;> clear K
        refine qa (qk (qb ?_))
        simp only [Try.results11, enA, ev0, evA, evB, evP, fl, gp, tab, simprocAttr]
        all_goals ((first | exact rfl | exact ⟨rfl, rfl⟩ | exact ⟨rfl, rfl, rfl⟩ | exact ⟨trivial, rfl⟩ | exact ⟨Nat.le_refl _, rfl⟩ | trivial | (simp; done)))
      · cases hC2
    · have hr2 := tot_le_mul rels 100000000000000 hr.2
      by_cases g3b : (subs.length : Int) > 100
      · refine hk_region fun K hK => runs_eval tab_ok ?_
        simp only [ev0, evA, evB, evP, fl, gp, tab, simprocAttr, ll_length, decide_eq_false g3a, decide_eq_true g3b]
        refine fin_run trivial (hK _ ?_) <;> clear hK <;> clear K
        refine qa ?_
        refine hk_cond rfl (fun hC2 => ?_) (fun hC2 => ?_)
        · refine qm ?_
          refine hk_region fun K hK => runs_eval tab_ok ?_
          simp only [ev0, evA, evB, evP, fl, gp, tab, simprocAttr]
          refine fin_run trivial (hK _ ?_) <;> clear hK <;> clear K
          refine qa (qk (qb ?_))
          simp only [Try.results11, enA, ev0, evA, evB, evP, fl, gp, tab, simprocAttr]
          all_goals ((first | exact rfl | exact ⟨rfl, rfl⟩ | exact ⟨rfl, rfl, rfl⟩ | exact ⟨trivial, rfl⟩ | exact ⟨Nat.le_refl _, rfl⟩ | trivial | (simp; done)))
        · cases hC2
      · have hs2 := tot_le_mul subs 100000000000000 hs.2
        have hr3 : rels.length * 100000000000000 ≤ 100 * 100000000000000 := Nat.mul_le_mul_right _ (by omega)
        have hs3 : subs.length * 100000000000000 ≤ 100 * 100000000000000 := Nat.mul_le_mul_right _ (by omega)
        have hlt : ltT [rels, subs] = tot rels + tot subs := by simp [ltT]
        refine hk_region fun K hK => runs_eval tab_ok ?_
        simp only [ev0, evA, evB, evP, fl, gp, tab, simprocAttr, ll_length, decide_eq_false g3a, decide_eq_false g3b]
        refine fin_stop trivial (runs_call (letters2_c rels subs (by omega) (by omega) (by omega)) rfl rfl rfl (by simp only [dstOk, Nat.reduceLT]) (by repeat (first | exact trivial | constructor)) (runs_eval tab_ok ?_))
        simp only [ev0, evA, evB, evP, fl, gp, tab, simprocAttr, ll_length, decide_eq_false g3a, decide_eq_false g3b]
        refine fin_run ?_ (hK _ ?_) <;> clear hK <;> clear K
        · (first | exact trivial | omega | (simp only [In64] at *; omega) | (simp [In64] at *; omega) | (simp_all; done) | skip)
        refine qa ?_
        refine hk_cond rfl (fun hC2 => ?_) (fun hC2 => ?_)
        · (try simp only [nhs] at hC2)
          refine qm ?_
          refine hk_region fun K hK => runs_eval tab_ok ?_
          simp only [ev0, evA, evB, evP, fl, gp, tab, simprocAttr]
          refine fin_run trivial (hK _ ?_) <;> clear hK <;> clear K
          refine qa (qk (qb ?_))
          simp only [Try.results11, enA, ev0, evA, evB, evP, fl, gp, tab, simprocAttr]
          all_goals ((first | exact rfl | exact ⟨rfl, rfl⟩ | exact ⟨rfl, rfl, rfl⟩ | exact ⟨trivial, rfl⟩ | exact ⟨Nat.le_refl _, rfl⟩ | trivial | (simp; done)))
        · (try simp only [nhs] at hC2)
          have h50 : ltT [rels, subs] ≤ 5000 := by omega
          rw [hlt] at h50
          have hr4 : rels.length ≤ 1000000000 ∧ ∀ w ∈ rels, w.length ≤ 1000000000 := ⟨by omega, fun w hw => by have := tot_mem hw; omega⟩
          have hs4 : subs.length ≤ 1000000000 ∧ ∀ w ∈ subs, w.length ≤ 1000000000 := ⟨by omega, fun w hw => by have := tot_mem hw; omega⟩
          have hc := cosets_c n rels subs mo hr4 hs4
          refine qh (qa (qm ?_))
          refine hk_region fun K hK => runs_eval tab_ok ?_
          simp only [ev0, evA, evB, evP, fl, gp, tab, simprocAttr]
          refine fin_stop trivial (runs_call (ownLists_c rels hr4.1 hr4.2) rfl rfl rfl (by simp only [dstOk, Nat.reduceLT]) (by repeat (first | exact trivial | constructor)) (runs_eval tab_ok ?_))
          simp only [ev0, evA, evB, evP, fl, gp, tab, simprocAttr]
          refine fin_stop trivial (runs_call (ownLists_c subs hs4.1 hs4.2) rfl rfl rfl (by simp only [dstOk, Nat.reduceLT]) (by repeat (first | exact trivial | constructor)) (runs_eval tab_ok ?_))
          simp only [ev0, evA, evB, evP, fl, gp, tab, simprocAttr]
          refine fin_run trivial (hK _ ?_) <;> clear hK <;> clear K
          refine qa (qm ?_)
          rcases cs_cases n rels subs mo with ⟨h1, h2⟩ | ⟨h1, h3, h2⟩ | ⟨h1, h3, h2⟩ | ⟨h1, h3, m, T, rfl, hm, h2, tk, t0, tl⟩ <;> rw [h2] at hc
          · refine hk_region fun K hK => runs_eval tab_ok ?_
            simp only [ev0, evA, evB, evP, fl, gp, tab, simprocAttr]
            refine fin_stop trivial (runs_call (hc) rfl rfl rfl (by simp only [dstOk, Nat.reduceLT]) (by repeat (first | exact trivial | constructor)) (runs_eval tab_ok ?_))
            simp only [ev0, evA, evB, evP, fl, gp, tab, simprocAttr]
            refine fin_run ?_ (hK _ ?_) <;> clear hK <;> clear K
            · (first | exact trivial | omega | (simp only [In64] at *; omega) | (simp [In64] at *; omega) | (simp_all; done) | skip)
            refine qa (qm ?_)
            refine hk_region fun K hK => runs_eval tab_ok ?_
            simp only [ev0, evA, evB, evP, fl, gp, tab, simprocAttr]
            refine fin_stop trivial (runs_call (presFault2_c _ rels subs hr4 hs4) rfl rfl rfl (by simp only [dstOk, Nat.reduceLT]) (by repeat (first | exact trivial | constructor)) (runs_eval tab_ok ?_))
            simp only [ev0, evA, evB, evP, fl, gp, tab, simprocAttr]
            refine fin_run ?_ (hK _ ?_) <;> clear hK <;> clear K
            · (first | exact trivial | omega | (simp only [In64] at *; omega) | (simp [In64] at *; omega) | (simp_all; done) | skip)
            refine qa (qm (qm ?_))
            have h4 : decide ((lkF n [rels, subs]).1 = 0) = false := by simpa using h1
            refine hk_region fun K hK => runs_eval tab_ok ?_
            simp only [ev0, evA, evB, evP, fl, gp, tab, simprocAttr, h4]
            refine fin_run ?_ (hK _ ?_) <;> clear hK <;> clear K
            · (first | exact trivial | omega | (simp only [In64] at *; omega) | (simp [In64] at *; omega) | (simp_all; done) | skip)
            refine qa ?_
            refine hk_cond rfl (fun hC3 => ?_) (fun hC3 => ?_)
            · cases hC3
            · refine qh (qa (qm (qm ?_)))
              have hr5 : decide (rels = rels) = true := decide_eq_true rfl
              have hs5 : decide (subs = subs) = true := decide_eq_true rfl
              refine hk_region fun K hK => runs_eval tab_ok ?_
              simp only [ev0, evA, evB, evP, fl, gp, tab, simprocAttr, hr5, hs5]
              refine fin_stop trivial (runs_call (lists_c rels rels hr4.1 hr4.2) rfl rfl rfl (by simp only [dstOk, Nat.reduceLT]) (by repeat (first | exact trivial | constructor)) (runs_eval tab_ok ?_))
              simp only [ev0, evA, evB, evP, fl, gp, tab, simprocAttr, hr5, hs5]
              refine fin_stop trivial (runs_call (lists_c subs subs hs4.1 hs4.2) rfl rfl rfl (by simp only [dstOk, Nat.reduceLT]) (by repeat (first | exact trivial | constructor)) (runs_eval tab_ok ?_))
              simp only [ev0, evA, evB, evP, fl, gp, tab, simprocAttr, hr5, hs5]
              refine fin_run trivial (hK _ ?_) <;> clear hK <;> clear K
              refine qa ?_
              refine hk_cond rfl (fun hC4 => ?_) (fun hC4 => ?_)
              · (try simp only [nhs] at hC4)
                first | exact hC4.elim | cases hC4 | (simp at hC4; done)
              · (try simp only [nhs] at hC4)
                refine qh (qa (qm (qm ?_)))
                refine hk_region fun K hK => runs_eval tab_ok ?_
                simp only [ev0, evA, evB, evP, fl, gp, tab, simprocAttr]
                refine fin_run ?_ (hK _ ?_) <;> clear hK <;> clear K
                · (first | exact trivial | omega | (simp only [In64] at *; omega) | (simp [In64] at *; omega) | (simp_all; done) | skip)
                refine qa ?_
                refine hk_cond rfl (fun hC5 => ?_) (fun hC5 => ?_)
                · (try simp only [nhs] at hC5)
                  refine qm ?_
                  refine hk_region fun K hK => runs_eval tab_ok ?_
                  simp only [ev0, evA, evB, evP, fl, gp, tab, simprocAttr]
                  refine fin_run ?_ (hK _ ?_) <;> clear hK <;> clear K
                  · (first | exact trivial | omega | (simp only [In64] at *; omega) | (simp [In64] at *; omega) | (simp_all; done) | skip)
                  refine qa (qk (qb ?_))
                  simp only [Try.results11, enA, ev0, evA, evB, evP, fl, gp, tab, simprocAttr]
                  all_goals ((first | exact rfl | exact ⟨rfl, rfl⟩ | exact ⟨rfl, rfl, rfl⟩ | exact ⟨trivial, rfl⟩ | exact ⟨Nat.le_refl _, rfl⟩ | trivial | (simp; done)))
                · (try simp only [nhs] at hC5)
                  exact absurd hC5 (by simpa using h1)
          · refine hk_region fun K hK => runs_eval tab_ok ?_
            simp only [ev0, evA, evB, evP, fl, gp, tab, simprocAttr]
            refine fin_stop trivial (runs_call (hc) rfl rfl rfl (by simp only [dstOk, Nat.reduceLT]) (by repeat (first | exact trivial | constructor)) (runs_eval tab_ok ?_))
            simp only [ev0, evA, evB, evP, fl, gp, tab, simprocAttr]
            refine fin_run ?_ (hK _ ?_) <;> clear hK <;> clear K
            · (first | exact trivial | omega | (simp only [In64] at *; omega) | (simp [In64] at *; omega) | (simp_all; done) | skip)
            refine qa (qm ?_)
            refine hk_region fun K hK => runs_eval tab_ok ?_
            simp only [ev0, evA, evB, evP, fl, gp, tab, simprocAttr, h1]
            refine fin_stop trivial (runs_call (presFault2_c _ rels subs hr4 hs4) rfl rfl rfl (by simp only [dstOk, Nat.reduceLT]) (by repeat (first | exact trivial | constructor)) (runs_eval tab_ok ?_))
            simp only [ev0, evA, evB, evP, fl, gp, tab, simprocAttr, h1]
            refine fin_run ?_ (hK _ ?_) <;> clear hK <;> clear K
            · (first | exact trivial | omega | (simp only [In64] at *; omega) | (simp [In64] at *; omega) | (simp_all; done) | skip)
            refine qa (qm (qm ?_))
            by_cases g8b : mo < 1
            · refine hk_region fun K hK => runs_eval tab_ok ?_
              simp only [ev0, evA, evB, evP, fl, gp, tab, simprocAttr, decide_eq_true g8b]
              refine fin_run ?_ (hK _ ?_) <;> clear hK <;> clear K
              · (first | exact trivial | omega | (simp only [In64] at *; omega) | (simp [In64] at *; omega) | (simp_all; done) | skip)
              refine qa ?_
              refine hk_cond rfl (fun hC3 => ?_) (fun hC3 => ?_)
              · refine hk_region fun K hK => runs_eval tab_ok ?_
                simp only [ev0, evA, evB, evP, fl, gp, tab, simprocAttr]
                refine fin_stop trivial (runs_call (f_c 3 4) rfl rfl rfl (by simp only [dstOk, Nat.reduceLT]) (by repeat (first | exact trivial | constructor)) (runs_eval tab_ok ?_))
                simp only [ev0, evA, evB, evP, fl, gp, tab, simprocAttr]
                refine fin_run ?_ (hK _ ?_) <;> clear hK <;> clear K
                · (first | exact trivial | omega | (simp only [In64] at *; omega) | (simp [In64] at *; omega) | (simp_all; done) | skip)
                refine qa (qm (qm ?_))
                have hr5 : decide (rels = rels) = true := decide_eq_true rfl
                have hs5 : decide (subs = subs) = true := decide_eq_true rfl
                refine hk_region fun K hK => runs_eval tab_ok ?_
                simp only [ev0, evA, evB, evP, fl, gp, tab, simprocAttr, hr5, hs5]
                refine fin_stop trivial (runs_call (lists_c rels rels hr4.1 hr4.2) rfl rfl rfl (by simp only [dstOk, Nat.reduceLT]) (by repeat (first | exact trivial | constructor)) (runs_eval tab_ok ?_))
                simp only [ev0, evA, evB, evP, fl, gp, tab, simprocAttr, hr5, hs5]
                refine fin_stop trivial (runs_call (lists_c subs subs hs4.1 hs4.2) rfl rfl rfl (by simp only [dstOk, Nat.reduceLT]) (by repeat (first | exact trivial | constructor)) (runs_eval tab_ok ?_))
                simp only [ev0, evA, evB, evP, fl, gp, tab, simprocAttr, hr5, hs5]
                refine fin_run trivial (hK _ ?_) <;> clear hK <;> clear K
                refine qa ?_
                refine hk_cond rfl (fun hC4 => ?_) (fun hC4 => ?_)
                · (try simp only [nhs] at hC4)
                  first | exact hC4.elim | cases hC4 | (simp at hC4; done)
                · (try simp only [nhs] at hC4)
                  refine qh (qa (qm (qm ?_)))
                  refine hk_region fun K hK => runs_eval tab_ok ?_
                  simp only [ev0, evA, evB, evP, fl, gp, tab, simprocAttr]
                  refine fin_run ?_ (hK _ ?_) <;> clear hK <;> clear K
                  · (first | exact trivial | omega | (simp only [In64] at *; omega) | (simp [In64] at *; omega) | (simp_all; done) | skip)
                  refine qa ?_
                  refine hk_cond rfl (fun hC5 => ?_) (fun hC5 => ?_)
                  · (try simp only [nhs] at hC5)
                    refine qm ?_
                    refine hk_region fun K hK => runs_eval tab_ok ?_
                    simp only [ev0, evA, evB, evP, fl, gp, tab, simprocAttr]
                    refine fin_run ?_ (hK _ ?_) <;> clear hK <;> clear K
                    · (first | exact trivial | omega | (simp only [In64] at *; omega) | (simp [In64] at *; omega) | (simp_all; done) | skip)
                    refine qa (qk (qb ?_))
                    simp only [Try.results11, enA, ev0, evA, evB, evP, fl, gp, tab, simprocAttr]
                    all_goals ((first | exact rfl | exact ⟨rfl, rfl⟩ | exact ⟨rfl, rfl, rfl⟩ | exact ⟨trivial, rfl⟩ | exact ⟨Nat.le_refl _, rfl⟩ | trivial | (simp; done)))
                  · (try simp only [nhs] at hC5)
                    first | exact hC5.elim | cases hC5 | (simp at hC5; done)
              · cases hC3
            · refine hk_region fun K hK => runs_eval tab_ok ?_
              simp only [ev0, evA, evB, evP, fl, gp, tab, simprocAttr, decide_eq_false g8b]
              refine fin_run ?_ (hK _ ?_) <;> clear hK <;> clear K
              · (first | exact trivial | omega | (simp only [In64] at *; omega) | (simp [In64] at *; omega) | (simp_all; done) | skip)
              refine qa ?_
              refine hk_cond rfl (fun hC3 => ?_) (fun hC3 => ?_)
              · (try simp only [nhs] at hC3)
                refine hk_region fun K hK => runs_eval tab_ok ?_
                simp only [ev0, evA, evB, evP, fl, gp, tab, simprocAttr]
                refine fin_stop trivial (runs_call (f_c 3 4) rfl rfl rfl (by simp only [dstOk, Nat.reduceLT]) (by repeat (first | exact trivial | constructor)) (runs_eval tab_ok ?_))
                simp only [ev0, evA, evB, evP, fl, gp, tab, simprocAttr]
                refine fin_run ?_ (hK _ ?_) <;> clear hK <;> clear K
                · (first | exact trivial | omega | (simp only [In64] at *; omega) | (simp [In64] at *; omega) | (simp_all; done) | skip)
                refine qa (qm (qm ?_))
                have hr5 : decide (rels = rels) = true := decide_eq_true rfl
                have hs5 : decide (subs = subs) = true := decide_eq_true rfl
                refine hk_region fun K hK => runs_eval tab_ok ?_
                simp only [ev0, evA, evB, evP, fl, gp, tab, simprocAttr, hr5, hs5]
                refine fin_stop trivial (runs_call (lists_c rels rels hr4.1 hr4.2) rfl rfl rfl (by simp only [dstOk, Nat.reduceLT]) (by repeat (first | exact trivial | constructor)) (runs_eval tab_ok ?_))
                simp only [ev0, evA, evB, evP, fl, gp, tab, simprocAttr, hr5, hs5]
                refine fin_stop trivial (runs_call (lists_c subs subs hs4.1 hs4.2) rfl rfl rfl (by simp only [dstOk, Nat.reduceLT]) (by repeat (first | exact trivial | constructor)) (runs_eval tab_ok ?_))
                simp only [ev0, evA, evB, evP, fl, gp, tab, simprocAttr, hr5, hs5]
                refine fin_run trivial (hK _ ?_) <;> clear hK <;> clear K
                refine qa ?_
                refine hk_cond rfl (fun hC4 => ?_) (fun hC4 => ?_)
                · (try simp only [nhs] at hC4)
                  first | exact hC4.elim | cases hC4 | (simp at hC4; done)
                · (try simp only [nhs] at hC4)
                  refine qh (qa (qm (qm ?_)))
                  refine hk_region fun K hK => runs_eval tab_ok ?_
                  simp only [ev0, evA, evB, evP, fl, gp, tab, simprocAttr]
                  refine fin_run ?_ (hK _ ?_) <;> clear hK <;> clear K
                  · (first | exact trivial | omega | (simp only [In64] at *; omega) | (simp [In64] at *; omega) | (simp_all; done) | skip)
                  refine qa ?_
                  refine hk_cond rfl (fun hC5 => ?_) (fun hC5 => ?_)
                  · (try simp only [nhs] at hC5)
                    refine qm ?_
                    refine hk_region fun K hK => runs_eval tab_ok ?_
                    simp only [ev0, evA, evB, evP, fl, gp, tab, simprocAttr]
                    refine fin_run ?_ (hK _ ?_) <;> clear hK <;> clear K
                    · (first | exact trivial | omega | (simp only [In64] at *; omega) | (simp [In64] at *; omega) | (simp_all; done) | skip)
                    refine qa (qk (qb ?_))
                    simp only [Try.results11, enA, ev0, evA, evB, evP, fl, gp, tab, simprocAttr]
                    all_goals ((first | exact rfl | exact ⟨rfl, rfl⟩ | exact ⟨rfl, rfl, rfl⟩ | exact ⟨trivial, rfl⟩ | exact ⟨Nat.le_refl _, rfl⟩ | trivial | (simp; done)))
                  · (try simp only [nhs] at hC5)
                    first | exact hC5.elim | cases hC5 | (simp at hC5; done)
              · (try simp only [nhs] at hC3)
                first | omega | exact absurd hC3 (by omega)
          · refine hk_region fun K hK => runs_eval tab_ok ?_
            simp only [ev0, evA, evB, evP, fl, gp, tab, simprocAttr]
            refine fin_stop trivial (runs_call (hc) rfl rfl rfl (by simp only [dstOk, Nat.reduceLT]) (by repeat (first | exact trivial | constructor)) (runs_eval tab_ok ?_))
            simp only [ev0, evA, evB, evP, fl, gp, tab, simprocAttr]
            refine fin_run ?_ (hK _ ?_) <;> clear hK <;> clear K
            · (first | exact trivial | omega | (simp only [In64] at *; omega) | (simp [In64] at *; omega) | (simp_all; done) | skip)
            refine qa (qm ?_)
            refine hk_region fun K hK => runs_eval tab_ok ?_
            simp only [ev0, evA, evB, evP, fl, gp, tab, simprocAttr, h1]
            refine fin_stop trivial (runs_call (presFault2_c _ rels subs hr4 hs4) rfl rfl rfl (by simp only [dstOk, Nat.reduceLT]) (by repeat (first | exact trivial | constructor)) (runs_eval tab_ok ?_))
            simp only [ev0, evA, evB, evP, fl, gp, tab, simprocAttr, h1]
            refine fin_run ?_ (hK _ ?_) <;> clear hK <;> clear K
            · (first | exact trivial | omega | (simp only [In64] at *; omega) | (simp [In64] at *; omega) | (simp_all; done) | skip)
            refine qa (qm (qm ?_))
            have h4 : decide (mo < 1) = false := decide_eq_false (by omega)
            have h5 : decide (mo > 1000) = false := decide_eq_false (by omega)
            refine hk_region fun K hK => runs_eval tab_ok ?_
            simp only [ev0, evA, evB, evP, fl, gp, tab, simprocAttr, h4, h5]
            refine fin_run ?_ (hK _ ?_) <;> clear hK <;> clear K
            · (first | exact trivial | omega | (simp only [In64] at *; omega) | (simp [In64] at *; omega) | (simp_all; done) | skip)
            refine qa ?_
            refine hk_cond rfl (fun hC3 => ?_) (fun hC3 => ?_)
            · (try simp only [nhs] at hC3)
              first | exact hC3.elim | cases hC3 | (simp at hC3; done)
            · (try simp only [nhs] at hC3)
              refine qh (qa (qm (qm ?_)))
              have hr5 : decide (rels = rels) = true := decide_eq_true rfl
              have hs5 : decide (subs = subs) = true := decide_eq_true rfl
              refine hk_region fun K hK => runs_eval tab_ok ?_
              simp only [ev0, evA, evB, evP, fl, gp, tab, simprocAttr, hr5, hs5]
              refine fin_stop trivial (runs_call (lists_c rels rels hr4.1 hr4.2) rfl rfl rfl (by simp only [dstOk, Nat.reduceLT]) (by repeat (first | exact trivial | constructor)) (runs_eval tab_ok ?_))
              simp only [ev0, evA, evB, evP, fl, gp, tab, simprocAttr, hr5, hs5]
              refine fin_stop trivial (runs_call (lists_c subs subs hs4.1 hs4.2) rfl rfl rfl (by simp only [dstOk, Nat.reduceLT]) (by repeat (first | exact trivial | constructor)) (runs_eval tab_ok ?_))
              simp only [ev0, evA, evB, evP, fl, gp, tab, simprocAttr, hr5, hs5]
              refine fin_run trivial (hK _ ?_) <;> clear hK <;> clear K
              refine qa ?_
              refine hk_cond rfl (fun hC4 => ?_) (fun hC4 => ?_)
              · (try simp only [nhs] at hC4)
                first | exact hC4.elim | cases hC4 | (simp at hC4; done)
              · (try simp only [nhs] at hC4)
                refine qh (qa (qm (qm ?_)))
                refine hk_region fun K hK => runs_eval tab_ok ?_
                simp only [ev0, evA, evB, evP, fl, gp, tab, simprocAttr]
                refine fin_run ?_ (hK _ ?_) <;> clear hK <;> clear K
                · (first | exact trivial | omega | (simp only [In64] at *; omega) | (simp [In64] at *; omega) | (simp_all; done) | skip)
                refine qa ?_
                refine hk_cond rfl (fun hC5 => ?_) (fun hC5 => ?_)
                · (try simp only [nhs] at hC5)
                  first | exact hC5.elim | cases hC5 | (simp at hC5; done)
                · (try simp only [nhs] at hC5)
                  refine qh (qa (qm (qm ?_)))
                  refine hk_region fun K hK => runs_eval tab_ok ?_
                  simp only [ev0, evA, evB, evP, fl, gp, tab, simprocAttr]
                  refine fin_run ?_ (hK _ ?_) <;> clear hK <;> clear K
                  · (first | exact trivial | omega | (simp only [In64] at *; omega) | (simp [In64] at *; omega) | (simp_all; done) | skip)
                  refine qa ?_
                  refine hk_cond rfl (fun hC6 => ?_) (fun hC6 => ?_)
                  · (try simp only [nhs] at hC6)
                    refine qm ?_
                    refine hk_draw mixed (by kernel_rfl) fun K hK => runs_eval tab_ok ?_
                    simp only [ev0, evA, evB, evP, fl, gp, tab, simprocAttr]
                    refine fin_stop trivial (runs_call (f_c 9 0) rfl rfl rfl (by simp only [dstOk, Nat.reduceLT]) (by repeat (first | exact trivial | constructor)) (runs_eval tab_ok ?_))
                    simp only [ev0, evA, evB, evP, fl, gp, tab, simprocAttr]
                    refine fin_run ?_ (hK _ ?_) <;> clear hK <;> clear K
                    · (first | exact trivial | omega | (simp only [In64] at *; omega) | (simp [In64] at *; omega) | (simp_all; done) | skip)
                    refine qa (qk (qb ?_))
                    simp only [Try.results11, enA, ev0, evA, evB, evP, fl, gp, tab, simprocAttr]
                    all_goals ((first | exact rfl | exact ⟨rfl, rfl⟩ | exact ⟨rfl, rfl, rfl⟩ | exact ⟨trivial, rfl⟩ | exact ⟨Nat.le_refl _, rfl⟩ | trivial | (simp; done)))
                  · (try simp only [nhs] at hC6)
                    first | exact hC6.elim | cases hC6 | (simp at hC6; done)
          · refine hk_region fun K hK => runs_eval tab_ok ?_
            simp only [ev0, evA, evB, evP, fl, gp, tab, simprocAttr]
            refine fin_stop trivial (runs_call (hc) rfl rfl rfl (by simp only [dstOk, Nat.reduceLT]) (by repeat (first | exact trivial | constructor)) (runs_eval tab_ok ?_))
            simp only [ev0, evA, evB, evP, fl, gp, tab, simprocAttr]
            refine fin_run ?_ (hK _ ?_) <;> clear hK <;> clear K
            · (first | exact trivial | omega | (simp only [In64] at *; omega) | (simp [In64] at *; omega) | (simp_all; done) | skip)
            refine qa (qm ?_)
            refine hk_region fun K hK => runs_eval tab_ok ?_
            simp only [ev0, evA, evB, evP, fl, gp, tab, simprocAttr, h1]
            refine fin_stop trivial (runs_call (presFault2_c _ rels subs hr4 hs4) rfl rfl rfl (by simp only [dstOk, Nat.reduceLT]) (by repeat (first | exact trivial | constructor)) (runs_eval tab_ok ?_))
            simp only [ev0, evA, evB, evP, fl, gp, tab, simprocAttr, h1]
            refine fin_run ?_ (hK _ ?_) <;> clear hK <;> clear K
            · (first | exact trivial | omega | (simp only [In64] at *; omega) | (simp [In64] at *; omega) | (simp_all; done) | skip)
            refine qa (qm (qm ?_))
            have h4 : decide (mo < 1) = false := decide_eq_false (by omega)
            have h5 : decide (mo > 1000) = false := decide_eq_false (by omega)
            refine hk_region fun K hK => runs_eval tab_ok ?_
            simp only [ev0, evA, evB, evP, fl, gp, tab, simprocAttr, h4, h5]
            refine fin_run ?_ (hK _ ?_) <;> clear hK <;> clear K
            · (first | exact trivial | omega | (simp only [In64] at *; omega) | (simp [In64] at *; omega) | (simp_all; done) | skip)
            refine qa ?_
            refine hk_cond rfl (fun hC3 => ?_) (fun hC3 => ?_)
            · (try simp only [nhs] at hC3)
              first | exact hC3.elim | cases hC3 | (simp at hC3; done)
            · (try simp only [nhs] at hC3)
              refine qh (qa (qm (qm ?_)))
              have hr5 : decide (rels = rels) = true := decide_eq_true rfl
              have hs5 : decide (subs = subs) = true := decide_eq_true rfl
              refine hk_region fun K hK => runs_eval tab_ok ?_
              simp only [ev0, evA, evB, evP, fl, gp, tab, simprocAttr, hr5, hs5]
              refine fin_stop trivial (runs_call (lists_c rels rels hr4.1 hr4.2) rfl rfl rfl (by simp only [dstOk, Nat.reduceLT]) (by repeat (first | exact trivial | constructor)) (runs_eval tab_ok ?_))
              simp only [ev0, evA, evB, evP, fl, gp, tab, simprocAttr, hr5, hs5]
              refine fin_stop trivial (runs_call (lists_c subs subs hs4.1 hs4.2) rfl rfl rfl (by simp only [dstOk, Nat.reduceLT]) (by repeat (first | exact trivial | constructor)) (runs_eval tab_ok ?_))
              simp only [ev0, evA, evB, evP, fl, gp, tab, simprocAttr, hr5, hs5]
              refine fin_run trivial (hK _ ?_) <;> clear hK <;> clear K
              refine qa ?_
              refine hk_cond rfl (fun hC4 => ?_) (fun hC4 => ?_)
              · (try simp only [nhs] at hC4)
                first | exact hC4.elim | cases hC4 | (simp at hC4; done)
              · (try simp only [nhs] at hC4)
                refine qh (qa (qm (qm ?_)))
                refine hk_region fun K hK => runs_eval tab_ok ?_
                simp only [ev0, evA, evB, evP, fl, gp, tab, simprocAttr]
                refine fin_run ?_ (hK _ ?_) <;> clear hK <;> clear K
                · (first | exact trivial | omega | (simp only [In64] at *; omega) | (simp [In64] at *; omega) | (simp_all; done) | skip)
                refine qa ?_
                refine hk_cond rfl (fun hC5 => ?_) (fun hC5 => ?_)
                · (try simp only [nhs] at hC5)
                  first | exact hC5.elim | cases hC5 | (simp at hC5; done)
                · (try simp only [nhs] at hC5)
                  refine qh (qa (qm (qm ?_)))
                  refine hk_region fun K hK => runs_eval tab_ok ?_
                  simp only [ev0, evA, evB, evP, fl, gp, tab, simprocAttr]
                  refine fin_run ?_ (hK _ ?_) <;> clear hK <;> clear K
                  · (first | exact trivial | omega | (simp only [In64] at *; omega) | (simp [In64] at *; omega) | (simp_all; done) | skip)
                  refine qa ?_
                  refine hk_cond rfl (fun hC6 => ?_) (fun hC6 => ?_)
                  · (try simp only [nhs] at hC6)
                    first | exact hC6.elim | cases hC6 | (simp at hC6; done)
                  · (try simp only [nhs] at hC6)
                    refine qh (qa (qm ?_))
                    have hl1 : decide ((T.length : Int) > 0) = true := decide_eq_true (by omega)
                    have hl2 : decide ((T.length : Int) ≤ mo) = true := decide_eq_true (by omega)
                    refine hk_region fun K hK => runs_eval tab_ok ?_
                    simp only [ev0, evA, evB, evP, fl, gp, tab, simprocAttr, ll_length, hl1, hl2]
                    refine fin_stop ?_ (runs_call (cosetTable_c hm T rels subs tk (by omega) ⟨hr4.1, hr4.2⟩ ⟨hs4.1, hs4.2⟩ t0) rfl rfl rfl (by simp only [dstOk, Nat.reduceLT]) (by repeat (first | exact trivial | constructor)) (runs_eval tab_ok ?_))
                    · (first | exact trivial | omega | (simp only [In64] at *; omega) | (simp [In64] at *; omega) | (simp_all; done) | skip)
                    simp only [ev0, evA, evB, evP, fl, gp, tab, simprocAttr, ll_length, hl1, hl2]
                    refine fin_run trivial (hK _ ?_) <;> clear hK <;> clear K
                    refine qa (qk ?_)
                    simp only [Try.results11, enA, ev0, evA, evB, evP, fl, gp, tab, simprocAttr]
                    all_goals ((first | exact rfl | exact ⟨rfl, rfl⟩ | exact ⟨rfl, rfl, rfl⟩ | exact ⟨trivial, rfl⟩ | exact ⟨Nat.le_refl _, rfl⟩ | trivial | (simp; done)))
end Go.Proofs.Ytneglephfhiamaa
