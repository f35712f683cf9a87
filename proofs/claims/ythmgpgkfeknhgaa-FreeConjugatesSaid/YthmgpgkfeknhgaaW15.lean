/-
  Walks: the law FreeReckons. Conditions: none.
-/
import Derived.Test.YthmgpgkfeknhgaaW10
import Derived.Test.YthmgpgkfeknhgaaM7
import Derived.Test.YthmgpgkfeknhgaaPvZ
set_option linter.all false
namespace Go.Proofs.Ythmgpgkfeknhgaa
open Go.Pv

def wf (v w : List Int) : Int × Int := if (check v).1 = 0 then check w else check v

theorem allS_wf (v w : List Int) : allS [v, w] = wf v w := by
  unfold wf
  by_cases h : (check v).1 = 0
  · rw [if_pos h]
    simp only [allS]
    by_cases h2 : (check w).1 = 0
    · rw [if_neg (by simpa using h), if_neg (by simpa using h2), check_zero h2]
    · rw [if_neg (by simpa using h), if_pos h2]
  · rw [if_neg h]
    simp only [allS]
    rw [if_pos h]
theorem wf_zero {v w : List Int} (h : (wf v w).1 = 0) : (check v).1 = 0 ∧ (check w).1 = 0 ∧ wf v w = (0, 0) := by
  unfold wf at h ⊢
  by_cases h1 : (check v).1 = 0
  · rw [if_pos h1] at h ⊢
    exact ⟨h1, h, check_zero h⟩
  · rw [if_neg h1] at h; exact absurd h h1
theorem reduceS_2 (v : List Int) : (reduceS v).2 = check v := by
  unfold reduceS
  by_cases h : (check v).1 = 0
  · rw [if_neg (by simpa using h), check_zero h]
  · rw [if_pos h]
theorem invS_2 (v : List Int) : (invS v).2 = check v := by
  unfold invS
  by_cases h : (check v).1 = 0
  · rw [if_neg (by simpa using h), check_zero h]
  · rw [if_pos h]
theorem mulS_2 (v w : List Int) : (mulS v w).2 = wf v w := by
  unfold mulS
  rw [allS_wf]
  by_cases h : (wf v w).1 = 0
  · rw [if_neg (by simpa using h), (wf_zero h).2.2]
  · rw [if_pos h]
theorem commS_2 (v w : List Int) : (commS v w).2 = wf v w := by
  unfold commS
  rw [allS_wf]
  by_cases h : (wf v w).1 = 0
  · rw [if_neg (by simpa using h), (wf_zero h).2.2]
  · rw [if_pos h]

theorem listAs_c (l : List Int) (w : Int × Int) (F : FuncId) (caps : List PV) (hl : l.length ≤ 1000000000) (h0 : ¬ w.1 = 0 → l = []) (h1 : w.1 = 0 → FnC Try.prog F caps (.list (il l))) : FnC Try.prog 30 [.list (il l), fl w, fl w, .fn F caps] (.bool true) := by
  refine fnc_of tab_ok Try.func30 rfl (by kernel_rfl) (by rw [Try.ntmps30]; exact Nat.le_add_left 4 _) ?_; rw [Try.ntmps30]; repeat (first | refine thn_n ?_ | refine thn_r ?_ | refine thn_x ?_ | refine inb_n ?_ | refine inb_r ?_ | refine inb_x ?_ | refine inb_y rfl ?_ | refine hk_skip ?_ | refine hk_label ?_ | refine hk_exit ?_ | refine hk_ret ?_ | refine hk_block ?_ | refine hk_seq ?_)
  refine hk_region fun K hK => runs_eval tab_ok ?_
  simp only [ev0, evA, evB, evP, fl, gp, tab, simprocAttr, reduceCtorEq, reduceIte]
  refine fin_run ?_ (hK _ ?_) <;> clear hK <;> clear K
  · (first | exact trivial | omega | (simp only [In64] at *; omega) | (simp [In64] at *; omega) | (simp_all; done) | skip)
  repeat (first | refine thn_n ?_ | refine thn_r ?_ | refine thn_x ?_ | refine inb_n ?_ | refine inb_r ?_ | refine inb_x ?_ | refine inb_y rfl ?_ | refine hk_skip ?_ | refine hk_label ?_ | refine hk_exit ?_ | refine hk_ret ?_ | refine hk_block ?_ | refine hk_seq ?_)
  refine hk_region fun K hK => runs_eval tab_ok ?_
  simp only [ev0, evA, evB, evP, fl, gp, tab, simprocAttr, reduceCtorEq, reduceIte]
  refine fin_run ?_ (hK _ ?_) <;> clear hK <;> clear K
  · (first | exact trivial | omega | (simp only [In64] at *; omega) | (simp [In64] at *; omega) | (simp_all; done) | skip)
  repeat (first | refine thn_n ?_ | refine thn_r ?_ | refine thn_x ?_ | refine inb_n ?_ | refine inb_r ?_ | refine inb_x ?_ | refine inb_y rfl ?_ | refine hk_skip ?_ | refine hk_label ?_ | refine hk_exit ?_ | refine hk_ret ?_ | refine hk_block ?_ | refine hk_seq ?_)
  refine hk_cond rfl (fun hC1 => ?_) (fun hC1 => ?_)
  · cases hC1
  · (try simp only [nhs] at hC1)
    repeat (first | refine thn_n ?_ | refine thn_r ?_ | refine thn_x ?_ | refine inb_n ?_ | refine inb_r ?_ | refine inb_x ?_ | refine inb_y rfl ?_ | refine hk_skip ?_ | refine hk_label ?_ | refine hk_exit ?_ | refine hk_ret ?_ | refine hk_block ?_ | refine hk_seq ?_)
    refine hk_region fun K hK => runs_eval tab_ok ?_
    simp only [ev0, evA, evB, evP, fl, gp, tab, simprocAttr, reduceCtorEq, reduceIte]
    refine fin_run ?_ (hK _ ?_) <;> clear hK <;> clear K
    · (first | exact trivial | omega | (simp only [In64] at *; omega) | (simp [In64] at *; omega) | (simp_all; done) | skip)
    repeat (first | refine thn_n ?_ | refine thn_r ?_ | refine thn_x ?_ | refine inb_n ?_ | refine inb_r ?_ | refine inb_x ?_ | refine inb_y rfl ?_ | refine hk_skip ?_ | refine hk_label ?_ | refine hk_exit ?_ | refine hk_ret ?_ | refine hk_block ?_ | refine hk_seq ?_)
    refine hk_cond rfl (fun hC2 => ?_) (fun hC2 => ?_)
    · (try simp only [nhs] at hC2)
      repeat (first | refine thn_n ?_ | refine thn_r ?_ | refine thn_x ?_ | refine inb_n ?_ | refine inb_r ?_ | refine inb_x ?_ | refine inb_y rfl ?_ | refine hk_skip ?_ | refine hk_label ?_ | refine hk_exit ?_ | refine hk_ret ?_ | refine hk_block ?_ | refine hk_seq ?_)
      refine hk_region fun K hK => runs_eval tab_ok ?_
      simp only [ev0, evA, evB, evP, fl, gp, tab, simprocAttr, reduceCtorEq, reduceIte]
      refine fin_run trivial (hK _ ?_) <;> clear hK <;> clear K
      repeat (first | refine thn_n ?_ | refine thn_r ?_ | refine thn_x ?_ | refine inb_n ?_ | refine inb_r ?_ | refine inb_x ?_ | refine inb_y rfl ?_ | refine hk_skip ?_ | refine hk_label ?_ | refine hk_exit ?_ | refine hk_ret ?_ | refine hk_block ?_ | refine hk_seq ?_)
      simp only [Try.results30, enA, ev0, evA, evB, evP, fl, gp, tab, simprocAttr, reduceCtorEq, reduceIte]
      all_goals (simp [h0 hC2])
    · (try simp only [nhs] at hC2)
      repeat (first | refine thn_n ?_ | refine thn_r ?_ | refine thn_x ?_ | refine inb_n ?_ | refine inb_r ?_ | refine inb_x ?_ | refine inb_y rfl ?_ | refine hk_skip ?_ | refine hk_label ?_ | refine hk_exit ?_ | refine hk_ret ?_ | refine hk_block ?_ | refine hk_seq ?_)
      refine hk_region fun K hK => runs_eval tab_ok ?_
      simp only [ev0, evA, evB, evP, fl, gp, tab, simprocAttr, reduceCtorEq, reduceIte]
      refine fin_stop trivial (runs_call (h1 hC2) rfl rfl rfl (by simp only [dstOk, Nat.reduceLT]) (by repeat (first | exact trivial | constructor)) (runs_eval tab_ok ?_))
      simp only [ev0, evA, evB, evP, fl, gp, tab, simprocAttr, reduceCtorEq, reduceIte]
      refine fin_stop trivial (runs_call (ints_c l l hl) rfl rfl rfl (by simp only [dstOk, Nat.reduceLT]) (by repeat (first | exact trivial | constructor)) (runs_eval tab_ok ?_))
      simp only [ev0, evA, evB, evP, fl, gp, tab, simprocAttr, reduceCtorEq, reduceIte]
      refine fin_run trivial (hK _ ?_) <;> clear hK <;> clear K
      repeat (first | refine thn_n ?_ | refine thn_r ?_ | refine thn_x ?_ | refine inb_n ?_ | refine inb_r ?_ | refine inb_x ?_ | refine inb_y rfl ?_ | refine hk_skip ?_ | refine hk_label ?_ | refine hk_exit ?_ | refine hk_ret ?_ | refine hk_block ?_ | refine hk_seq ?_)
      simp only [Try.results30, enA, ev0, evA, evB, evP, fl, gp, tab, simprocAttr, reduceCtorEq, reduceIte]
      all_goals (simp)

theorem reck1_c (v : List Int) (hl : v.length ≤ 5000) (hv : (check v).1 = 0) : FnC Try.prog 31 [.ptr [.list (il v)]] (.list (il (reduceS v).1)) := by
  have e : (reduceS v).1 = short v := by unfold reduceS; rw [if_neg (by simpa using hv)]
  rw [e]
  refine fnc_of tab_ok Try.func31 rfl (by kernel_rfl) (by rw [Try.ntmps31]; exact Nat.le_add_left 1 _) ?_; rw [Try.ntmps31]; repeat (first | refine thn_n ?_ | refine thn_r ?_ | refine thn_x ?_ | refine inb_n ?_ | refine inb_r ?_ | refine inb_x ?_ | refine inb_y rfl ?_ | refine hk_skip ?_ | refine hk_label ?_ | refine hk_exit ?_ | refine hk_ret ?_ | refine hk_block ?_ | refine hk_seq ?_)
  refine hk_region fun K hK => runs_eval tab_ok ?_
  simp only [ev0, evA, evB, evP, fl, gp, tab, simprocAttr, reduceCtorEq, reduceIte]
  refine fin_run trivial (hK _ ?_) <;> clear hK <;> clear K
  repeat (first | refine thn_n ?_ | refine thn_r ?_ | refine thn_x ?_ | refine inb_n ?_ | refine inb_r ?_ | refine inb_x ?_ | refine inb_y rfl ?_ | refine hk_skip ?_ | refine hk_label ?_ | refine hk_exit ?_ | refine hk_ret ?_ | refine hk_block ?_ | refine hk_seq ?_)
  refine hk_region fun K hK => runs_eval tab_ok ?_
  simp only [ev0, evA, evB, evP, fl, gp, tab, simprocAttr, reduceCtorEq, reduceIte]
  refine fin_stop trivial (runs_call (reduced_c v (by omega) (check_sm hv).1) rfl rfl rfl (by simp only [dstOk, Nat.reduceLT]) (by repeat (first | exact trivial | constructor)) (runs_eval tab_ok ?_))
  simp only [ev0, evA, evB, evP, fl, gp, tab, simprocAttr, reduceCtorEq, reduceIte]
  refine fin_run ?_ (hK _ ?_) <;> clear hK <;> clear K
  · (first | exact trivial | omega | (simp only [In64] at *; omega) | (simp [In64] at *; omega) | (simp_all; done) | skip)
  repeat (first | refine thn_n ?_ | refine thn_r ?_ | refine thn_x ?_ | refine inb_n ?_ | refine inb_r ?_ | refine inb_x ?_ | refine inb_y rfl ?_ | refine hk_skip ?_ | refine hk_label ?_ | refine hk_exit ?_ | refine hk_ret ?_ | refine hk_block ?_ | refine hk_seq ?_)
  simp only [Try.results31, enA, ev0, evA, evB, evP, fl, gp, tab, simprocAttr, reduceCtorEq, reduceIte]
  all_goals ((first | exact rfl | exact ⟨rfl, rfl⟩ | exact ⟨rfl, rfl, rfl⟩ | exact ⟨trivial, rfl⟩ | exact ⟨Nat.le_refl _, rfl⟩ | trivial | (simp; done)))
theorem reck2_c (v w : List Int) (hl : v.length ≤ 5000) (hl' : w.length ≤ 5000) (h : (wf v w).1 = 0) : FnC Try.prog 32 [.ptr [.list (il v)], .ptr [.list (il w)]] (.list (il (mulS v w).1)) := by
  have e : (mulS v w).1 = short (v ++ w) := by unfold mulS; rw [allS_wf, if_neg (by simpa using h)]
  obtain ⟨h1, h2, _⟩ := wf_zero h
  rw [e]
  refine fnc_of tab_ok Try.func32 rfl (by kernel_rfl) (by rw [Try.ntmps32]; exact Nat.le_add_left 2 _) ?_; rw [Try.ntmps32]; repeat (first | refine thn_n ?_ | refine thn_r ?_ | refine thn_x ?_ | refine inb_n ?_ | refine inb_r ?_ | refine inb_x ?_ | refine inb_y rfl ?_ | refine hk_skip ?_ | refine hk_label ?_ | refine hk_exit ?_ | refine hk_ret ?_ | refine hk_block ?_ | refine hk_seq ?_)
  refine hk_region fun K hK => runs_eval tab_ok ?_
  simp only [ev0, evA, evB, evP, fl, gp, tab, simprocAttr, reduceCtorEq, reduceIte]
  refine fin_run trivial (hK _ ?_) <;> clear hK <;> clear K
  repeat (first | refine thn_n ?_ | refine thn_r ?_ | refine thn_x ?_ | refine inb_n ?_ | refine inb_r ?_ | refine inb_x ?_ | refine inb_y rfl ?_ | refine hk_skip ?_ | refine hk_label ?_ | refine hk_exit ?_ | refine hk_ret ?_ | refine hk_block ?_ | refine hk_seq ?_)
  refine hk_region fun K hK => runs_eval tab_ok ?_
  simp only [ev0, evA, evB, evP, fl, gp, tab, simprocAttr, reduceCtorEq, reduceIte]
  refine fin_stop trivial (runs_call (behind_c [v, w] (by simp; omega) (by simp) (by rw [cat2]; exact (check_sm h1).1.app (check_sm h2).1)) rfl rfl rfl (by simp only [dstOk, Nat.reduceLT]) (by repeat (first | exact trivial | constructor)) (runs_eval tab_ok ?_))
  simp only [ev0, evA, evB, evP, fl, gp, tab, simprocAttr, reduceCtorEq, reduceIte, cat2]
  refine fin_run ?_ (hK _ ?_) <;> clear hK <;> clear K
  · (first | exact trivial | omega | (simp only [In64] at *; omega) | (simp [In64] at *; omega) | (simp_all; done) | skip)
  repeat (first | refine thn_n ?_ | refine thn_r ?_ | refine thn_x ?_ | refine inb_n ?_ | refine inb_r ?_ | refine inb_x ?_ | refine inb_y rfl ?_ | refine hk_skip ?_ | refine hk_label ?_ | refine hk_exit ?_ | refine hk_ret ?_ | refine hk_block ?_ | refine hk_seq ?_)
  simp only [Try.results32, enA, ev0, evA, evB, evP, fl, gp, tab, simprocAttr, reduceCtorEq, reduceIte]
  all_goals ((first | exact rfl | exact ⟨rfl, rfl⟩ | exact ⟨rfl, rfl, rfl⟩ | exact ⟨trivial, rfl⟩ | exact ⟨Nat.le_refl _, rfl⟩ | trivial | (simp; done)))
theorem reck3_c (v : List Int) (hl : v.length ≤ 5000) (hv : (check v).1 = 0) : FnC Try.prog 33 [.ptr [.list (il v)]] (.list (il (invS v).1)) := by
  have e : (invS v).1 = short (back v) := by unfold invS; rw [if_neg (by simpa using hv)]
  rw [e]
  refine fnc_of tab_ok Try.func33 rfl (by kernel_rfl) (by rw [Try.ntmps33]; exact Nat.le_add_left 1 _) ?_; rw [Try.ntmps33]; repeat (first | refine thn_n ?_ | refine thn_r ?_ | refine thn_x ?_ | refine inb_n ?_ | refine inb_r ?_ | refine inb_x ?_ | refine inb_y rfl ?_ | refine hk_skip ?_ | refine hk_label ?_ | refine hk_exit ?_ | refine hk_ret ?_ | refine hk_block ?_ | refine hk_seq ?_)
  refine hk_region fun K hK => runs_eval tab_ok ?_
  simp only [ev0, evA, evB, evP, fl, gp, tab, simprocAttr, reduceCtorEq, reduceIte]
  refine fin_run trivial (hK _ ?_) <;> clear hK <;> clear K
  repeat (first | refine thn_n ?_ | refine thn_r ?_ | refine thn_x ?_ | refine inb_n ?_ | refine inb_r ?_ | refine inb_x ?_ | refine inb_y rfl ?_ | refine hk_skip ?_ | refine hk_label ?_ | refine hk_exit ?_ | refine hk_ret ?_ | refine hk_block ?_ | refine hk_seq ?_)
  refine hk_region fun K hK => runs_eval tab_ok ?_
  simp only [ev0, evA, evB, evP, fl, gp, tab, simprocAttr, reduceCtorEq, reduceIte]
  refine fin_stop trivial (runs_call (turned_c v (by omega) (check_sm hv).1) rfl rfl rfl (by simp only [dstOk, Nat.reduceLT]) (by repeat (first | exact trivial | constructor)) (runs_eval tab_ok ?_))
  simp only [ev0, evA, evB, evP, fl, gp, tab, simprocAttr, reduceCtorEq, reduceIte]
  refine fin_stop trivial (runs_call (reduced_c (back v) (by rw [back_len]; omega) (back_sm (check_sm hv).1)) rfl rfl rfl (by simp only [dstOk, Nat.reduceLT]) (by repeat (first | exact trivial | constructor)) (runs_eval tab_ok ?_))
  simp only [ev0, evA, evB, evP, fl, gp, tab, simprocAttr, reduceCtorEq, reduceIte]
  refine fin_run ?_ (hK _ ?_) <;> clear hK <;> clear K
  · (first | exact trivial | omega | (simp only [In64] at *; omega) | (simp [In64] at *; omega) | (simp_all; done) | skip)
  repeat (first | refine thn_n ?_ | refine thn_r ?_ | refine thn_x ?_ | refine inb_n ?_ | refine inb_r ?_ | refine inb_x ?_ | refine inb_y rfl ?_ | refine hk_skip ?_ | refine hk_label ?_ | refine hk_exit ?_ | refine hk_ret ?_ | refine hk_block ?_ | refine hk_seq ?_)
  simp only [Try.results33, enA, ev0, evA, evB, evP, fl, gp, tab, simprocAttr, reduceCtorEq, reduceIte]
  all_goals ((first | exact rfl | exact ⟨rfl, rfl⟩ | exact ⟨rfl, rfl, rfl⟩ | exact ⟨trivial, rfl⟩ | exact ⟨Nat.le_refl _, rfl⟩ | trivial | (simp; done)))

theorem reduceS_len (v : List Int) (h : v.length ≤ 5000) : (reduceS v).1.length ≤ 1000000000 := by
  unfold reduceS; split
  · simp
  · have := short_len v; simp only; omega
theorem invS_len (v : List Int) (h : v.length ≤ 5000) : (invS v).1.length ≤ 1000000000 := by
  unfold invS; split
  · simp
  · have := short_len (back v); rw [back_len] at this; simp only; omega
theorem mulS_len (v w : List Int) (h : v.length ≤ 5000) (h' : w.length ≤ 5000) : (mulS v w).1.length ≤ 1000000000 := by
  unfold mulS; split
  · simp
  · have := short_len (v ++ w); rw [List.length_append] at this; simp only; omega

set_option maxRecDepth 20000 in
set_option maxHeartbeats 4000000 in
theorem reckons_c (v w : List Int) (hlv : v.length ≤ 100000000000000) (hlw : w.length ≤ 100000000000000) : FnC Try.prog 9 [.list (il v), .list (il w)] (.bool true) := by
  refine fnc_of tab_ok Try.func9 rfl (by kernel_rfl) (by rw [Try.ntmps9]; exact Nat.le_add_left 2 _) ?_; rw [Try.ntmps9]; repeat (first | refine thn_n ?_ | refine thn_r ?_ | refine thn_x ?_ | refine inb_n ?_ | refine inb_r ?_ | refine inb_x ?_ | refine inb_y rfl ?_ | refine hk_skip ?_ | refine hk_label ?_ | refine hk_exit ?_ | refine hk_ret ?_ | refine hk_block ?_ | refine hk_seq ?_)
  refine hk_region fun K hK => runs_eval tab_ok ?_
  simp only [ev0, evA, evB, evP, fl, gp, tab, simprocAttr, reduceCtorEq, reduceIte]
  refine fin_run ?_ (hK _ ?_) <;> clear hK <;> clear K
  · (first | exact trivial | omega | (simp only [In64] at *; omega) | (simp [In64] at *; omega) | (simp_all; done) | skip)
  repeat (first | refine thn_n ?_ | refine thn_r ?_ | refine thn_x ?_ | refine inb_n ?_ | refine inb_r ?_ | refine inb_x ?_ | refine inb_y rfl ?_ | refine hk_skip ?_ | refine hk_label ?_ | refine hk_exit ?_ | refine hk_ret ?_ | refine hk_block ?_ | refine hk_seq ?_)
  refine hk_region fun K hK => runs_eval tab_ok ?_
  simp only [ev0, evA, evB, evP, fl, gp, tab, simprocAttr, reduceCtorEq, reduceIte]
  refine fin_stop trivial (runs_call (begun_c) rfl rfl rfl (by simp only [dstOk, Nat.reduceLT]) (by repeat (first | exact trivial | constructor)) (runs_eval tab_ok ?_))
  simp only [ev0, evA, evB, evP, fl, gp, tab, simprocAttr, reduceCtorEq, reduceIte]
  refine fin_run trivial (hK _ ?_) <;> clear hK <;> clear K
  repeat (first | refine thn_n ?_ | refine thn_r ?_ | refine thn_x ?_ | refine inb_n ?_ | refine inb_r ?_ | refine inb_x ?_ | refine inb_y rfl ?_ | refine hk_skip ?_ | refine hk_label ?_ | refine hk_exit ?_ | refine hk_ret ?_ | refine hk_block ?_ | refine hk_seq ?_)
  refine hk_cond rfl (fun hC1 => ?_) (fun hC1 => ?_)
  · cases hC1
  · (try simp only [nhs] at hC1)
    repeat (first | refine thn_n ?_ | refine thn_r ?_ | refine thn_x ?_ | refine inb_n ?_ | refine inb_r ?_ | refine inb_x ?_ | refine inb_y rfl ?_ | refine hk_skip ?_ | refine hk_label ?_ | refine hk_exit ?_ | refine hk_ret ?_ | refine hk_block ?_ | refine hk_seq ?_)
    by_cases g3a : (v.length : Int) > 5000
    · refine hk_region fun K hK => runs_eval tab_ok ?_
      simp only [ev0, evA, evB, evP, fl, gp, tab, simprocAttr, reduceCtorEq, reduceIte, decide_eq_true g3a]
      refine fin_run ?_ (hK _ ?_) <;> clear hK <;> clear K
      · (first | exact trivial | omega | (simp only [In64] at *; omega) | (simp [In64] at *; omega) | (simp_all; done) | skip)
      repeat (first | refine thn_n ?_ | refine thn_r ?_ | refine thn_x ?_ | refine inb_n ?_ | refine inb_r ?_ | refine inb_x ?_ | refine inb_y rfl ?_ | refine hk_skip ?_ | refine hk_label ?_ | refine hk_exit ?_ | refine hk_ret ?_ | refine hk_block ?_ | refine hk_seq ?_)
      refine hk_cond rfl (fun hC2 => ?_) (fun hC2 => ?_)
      · repeat (first | refine thn_n ?_ | refine thn_r ?_ | refine thn_x ?_ | refine inb_n ?_ | refine inb_r ?_ | refine inb_x ?_ | refine inb_y rfl ?_ | refine hk_skip ?_ | refine hk_label ?_ | refine hk_exit ?_ | refine hk_ret ?_ | refine hk_block ?_ | refine hk_seq ?_)
        refine hk_region fun K hK => runs_eval tab_ok ?_
        simp only [ev0, evA, evB, evP, fl, gp, tab, simprocAttr, reduceCtorEq, reduceIte]
        refine fin_run trivial (hK _ ?_) <;> clear hK <;> clear K
        repeat (first | refine thn_n ?_ | refine thn_r ?_ | refine thn_x ?_ | refine inb_n ?_ | refine inb_r ?_ | refine inb_x ?_ | refine inb_y rfl ?_ | refine hk_skip ?_ | refine hk_label ?_ | refine hk_exit ?_ | refine hk_ret ?_ | refine hk_block ?_ | refine hk_seq ?_)
        simp only [Try.results9, enA, ev0, evA, evB, evP, fl, gp, tab, simprocAttr, reduceCtorEq, reduceIte]
        all_goals ((first | exact rfl | exact ⟨rfl, rfl⟩ | exact ⟨rfl, rfl, rfl⟩ | exact ⟨trivial, rfl⟩ | exact ⟨Nat.le_refl _, rfl⟩ | trivial | (simp; done)))
      · cases hC2
    · refine hk_region fun K hK => runs_eval tab_ok ?_
      simp only [ev0, evA, evB, evP, fl, gp, tab, simprocAttr, reduceCtorEq, reduceIte, decide_eq_false g3a]
      refine fin_run ?_ (hK _ ?_) <;> clear hK <;> clear K
      · (first | exact trivial | omega | (simp only [In64] at *; omega) | (simp [In64] at *; omega) | (simp_all; done) | skip)
      repeat (first | refine thn_n ?_ | refine thn_r ?_ | refine thn_x ?_ | refine inb_n ?_ | refine inb_r ?_ | refine inb_x ?_ | refine inb_y rfl ?_ | refine hk_skip ?_ | refine hk_label ?_ | refine hk_exit ?_ | refine hk_ret ?_ | refine hk_block ?_ | refine hk_seq ?_)
      refine hk_cond rfl (fun hC2 => ?_) (fun hC2 => ?_)
      · (try simp only [nhs] at hC2)
        repeat (first | refine thn_n ?_ | refine thn_r ?_ | refine thn_x ?_ | refine inb_n ?_ | refine inb_r ?_ | refine inb_x ?_ | refine inb_y rfl ?_ | refine hk_skip ?_ | refine hk_label ?_ | refine hk_exit ?_ | refine hk_ret ?_ | refine hk_block ?_ | refine hk_seq ?_)
        refine hk_region fun K hK => runs_eval tab_ok ?_
        simp only [ev0, evA, evB, evP, fl, gp, tab, simprocAttr, reduceCtorEq, reduceIte]
        refine fin_run trivial (hK _ ?_) <;> clear hK <;> clear K
        repeat (first | refine thn_n ?_ | refine thn_r ?_ | refine thn_x ?_ | refine inb_n ?_ | refine inb_r ?_ | refine inb_x ?_ | refine inb_y rfl ?_ | refine hk_skip ?_ | refine hk_label ?_ | refine hk_exit ?_ | refine hk_ret ?_ | refine hk_block ?_ | refine hk_seq ?_)
        simp only [Try.results9, enA, ev0, evA, evB, evP, fl, gp, tab, simprocAttr, reduceCtorEq, reduceIte]
        all_goals ((first | exact rfl | exact ⟨rfl, rfl⟩ | exact ⟨rfl, rfl, rfl⟩ | exact ⟨trivial, rfl⟩ | exact ⟨Nat.le_refl _, rfl⟩ | trivial | (simp; done)))
      · (try simp only [nhs] at hC2)
        repeat (first | refine thn_n ?_ | refine thn_r ?_ | refine thn_x ?_ | refine inb_n ?_ | refine inb_r ?_ | refine inb_x ?_ | refine inb_y rfl ?_ | refine hk_skip ?_ | refine hk_label ?_ | refine hk_exit ?_ | refine hk_ret ?_ | refine hk_block ?_ | refine hk_seq ?_)
        have hv : v.length ≤ 5000 := by omega
        have hw : w.length ≤ 5000 := by omega
        refine hk_draw mixed (by kernel_rfl) fun K hK => runs_eval tab_ok ?_
        simp only [ev0, evA, evB, evP, fl, gp, tab, simprocAttr, reduceCtorEq, reduceIte]
        refine fin_stop trivial (runs_call (own_c v (by omega)) rfl rfl rfl (by simp only [dstOk, Nat.reduceLT]) (by repeat (first | exact trivial | constructor)) (runs_eval tab_ok ?_))
        simp only [ev0, evA, evB, evP, fl, gp, tab, simprocAttr, reduceCtorEq, reduceIte]
        refine fin_stop trivial (runs_call (own_c w (by omega)) rfl rfl rfl (by simp only [dstOk, Nat.reduceLT]) (by repeat (first | exact trivial | constructor)) (runs_eval tab_ok ?_))
        simp only [ev0, evA, evB, evP, fl, gp, tab, simprocAttr, reduceCtorEq, reduceIte]
        refine fin_run ?_ (hK _ ?_) <;> clear hK <;> clear K
        · (first | exact trivial | omega | (simp only [In64] at *; omega) | (simp [In64] at *; omega) | (simp_all; done) | skip)
        repeat (first | refine thn_n ?_ | refine thn_r ?_ | refine thn_x ?_ | refine inb_n ?_ | refine inb_r ?_ | refine inb_x ?_ | refine inb_y rfl ?_ | refine hk_skip ?_ | refine hk_label ?_ | refine hk_exit ?_ | refine hk_ret ?_ | refine hk_block ?_ | refine hk_seq ?_)
        refine hk_region fun K hK => runs_eval tab_ok ?_
        simp only [ev0, evA, evB, evP, fl, gp, tab, simprocAttr, reduceCtorEq, reduceIte]
        refine fin_stop trivial (runs_call (check_c v) rfl rfl rfl (by simp only [dstOk, Nat.reduceLT]) (by repeat (first | exact trivial | constructor)) (runs_eval tab_ok ?_))
        simp only [ev0, evA, evB, evP, fl, gp, tab, simprocAttr, reduceCtorEq, reduceIte]
        refine fin_run ?_ (hK _ ?_) <;> clear hK <;> clear K
        · (first | exact trivial | omega | (simp only [In64] at *; omega) | (simp [In64] at *; omega) | (simp_all; done) | skip)
        repeat (first | refine thn_n ?_ | refine thn_r ?_ | refine thn_x ?_ | refine inb_n ?_ | refine inb_r ?_ | refine inb_x ?_ | refine inb_y rfl ?_ | refine hk_skip ?_ | refine hk_label ?_ | refine hk_exit ?_ | refine hk_ret ?_ | refine hk_block ?_ | refine hk_seq ?_)
        refine hk_region fun K hK => runs_eval tab_ok ?_
        simp only [ev0, evA, evB, evP, fl, gp, tab, simprocAttr, reduceCtorEq, reduceIte]
        refine fin_stop trivial (runs_call (reduce_c v) rfl rfl rfl (by simp only [dstOk, Nat.reduceLT]) (by repeat (first | exact trivial | constructor)) (runs_eval tab_ok ?_))
        simp only [ev0, evA, evB, evP, fl, gp, tab, simprocAttr, reduceCtorEq, reduceIte, reduceS_2]
        refine fin_run ?_ (hK _ ?_) <;> clear hK <;> clear K
        · (first | exact trivial | omega | (simp only [In64] at *; omega) | (simp [In64] at *; omega) | (simp_all; done) | skip)
        repeat (first | refine thn_n ?_ | refine thn_r ?_ | refine thn_x ?_ | refine inb_n ?_ | refine inb_r ?_ | refine inb_x ?_ | refine inb_y rfl ?_ | refine hk_skip ?_ | refine hk_label ?_ | refine hk_exit ?_ | refine hk_ret ?_ | refine hk_block ?_ | refine hk_seq ?_)
        refine hk_region fun K hK => runs_eval tab_ok ?_
        simp only [ev0, evA, evB, evP, fl, gp, tab, simprocAttr, reduceCtorEq, reduceIte]
        refine fin_stop trivial (runs_call (mul_c v w) rfl rfl rfl (by simp only [dstOk, Nat.reduceLT]) (by repeat (first | exact trivial | constructor)) (runs_eval tab_ok ?_))
        simp only [ev0, evA, evB, evP, fl, gp, tab, simprocAttr, reduceCtorEq, reduceIte, mulS_2]
        refine fin_run ?_ (hK _ ?_) <;> clear hK <;> clear K
        · (first | exact trivial | omega | (simp only [In64] at *; omega) | (simp [In64] at *; omega) | (simp_all; done) | skip)
        repeat (first | refine thn_n ?_ | refine thn_r ?_ | refine thn_x ?_ | refine inb_n ?_ | refine inb_r ?_ | refine inb_x ?_ | refine inb_y rfl ?_ | refine hk_skip ?_ | refine hk_label ?_ | refine hk_exit ?_ | refine hk_ret ?_ | refine hk_block ?_ | refine hk_seq ?_)
        refine hk_region fun K hK => runs_eval tab_ok ?_
        simp only [ev0, evA, evB, evP, fl, gp, tab, simprocAttr, reduceCtorEq, reduceIte]
        refine fin_stop trivial (runs_call (inv_c v) rfl rfl rfl (by simp only [dstOk, Nat.reduceLT]) (by repeat (first | exact trivial | constructor)) (runs_eval tab_ok ?_))
        simp only [ev0, evA, evB, evP, fl, gp, tab, simprocAttr, reduceCtorEq, reduceIte, invS_2]
        refine fin_run ?_ (hK _ ?_) <;> clear hK <;> clear K
        · (first | exact trivial | omega | (simp only [In64] at *; omega) | (simp [In64] at *; omega) | (simp_all; done) | skip)
        repeat (first | refine thn_n ?_ | refine thn_r ?_ | refine thn_x ?_ | refine inb_n ?_ | refine inb_r ?_ | refine inb_x ?_ | refine inb_y rfl ?_ | refine hk_skip ?_ | refine hk_label ?_ | refine hk_exit ?_ | refine hk_ret ?_ | refine hk_block ?_ | refine hk_seq ?_)
        refine hk_region fun K hK => runs_eval tab_ok ?_
        simp only [ev0, evA, evB, evP, fl, gp, tab, simprocAttr, reduceCtorEq, reduceIte]
        refine fin_stop trivial (runs_call (commute_c v w) rfl rfl rfl (by simp only [dstOk, Nat.reduceLT]) (by repeat (first | exact trivial | constructor)) (runs_eval tab_ok ?_))
        simp only [ev0, evA, evB, evP, fl, gp, tab, simprocAttr, reduceCtorEq, reduceIte, commS_2]
        refine fin_run ?_ (hK _ ?_) <;> clear hK <;> clear K
        · (first | exact trivial | omega | (simp only [In64] at *; omega) | (simp [In64] at *; omega) | (simp_all; done) | skip)
        repeat (first | refine thn_n ?_ | refine thn_r ?_ | refine thn_x ?_ | refine inb_n ?_ | refine inb_r ?_ | refine inb_x ?_ | refine inb_y rfl ?_ | refine hk_skip ?_ | refine hk_label ?_ | refine hk_exit ?_ | refine hk_ret ?_ | refine hk_block ?_ | refine hk_seq ?_)
        refine hk_draw2 mixed fun K hK => runs2_eval tab_ok ?_
        simp only [evD, ev0, evA, evB, evP, fl, gp, tab, simprocAttr, reduceCtorEq, reduceIte, show (if (check v).1 = 0 then check w else check v) = wf v w from rfl]
        refine fin2_stop trivial (runs2_call (wordFault_c v) rfl rfl rfl rfl (by simp only [dstOk, Nat.reduceLT]) (by repeat (first | exact trivial | constructor)) (runs2_eval tab_ok ?_))
        simp only [evD, ev0, evA, evB, evP, fl, gp, tab, simprocAttr, reduceCtorEq, reduceIte, show (if (check v).1 = 0 then check w else check v) = wf v w from rfl]
        refine fin2_stop trivial (runs2_call (wordsFault_c v w) rfl rfl rfl rfl (by simp only [dstOk, Nat.reduceLT]) (by repeat (first | exact trivial | constructor)) (runs2_eval tab_ok ?_))
        simp only [evD, ev0, evA, evB, evP, fl, gp, tab, simprocAttr, reduceCtorEq, reduceIte, show (if (check v).1 = 0 then check w else check v) = wf v w from rfl]
        refine fin2_run ?_ (hK _ _ (by first | kernel_rfl | rfl) ?_) <;> clear hK <;> clear K
        · (first | exact trivial | omega | (simp only [In64] at *; omega) | (simp [In64] at *; omega) | (simp_all; done) | skip)
        repeat (first | refine thn_n ?_ | refine thn_r ?_ | refine thn_x ?_ | refine inb_n ?_ | refine inb_r ?_ | refine inb_x ?_ | refine inb_y rfl ?_ | refine hk_skip ?_ | refine hk_label ?_ | refine hk_exit ?_ | refine hk_ret ?_ | refine hk_block ?_ | refine hk_seq ?_)
        by_cases hb : (wf v w).1 = 0
        · obtain ⟨b1, b2, b3⟩ := wf_zero hb
          have ec : (commS v w).1 = decide (short (v ++ w) = short (w ++ v)) := by unfold commS; rw [allS_wf, if_neg (by simpa using hb)]
          refine hk_draw mixed (by kernel_rfl) fun K hK => runs_eval tab_ok ?_
          simp only [ev0, evA, evB, evP, fl, gp, tab, simprocAttr, reduceCtorEq, reduceIte, decide_eq_true hb, ec, cat2]
          refine fin_stop trivial (runs_call (ints_c v v (by omega)) rfl rfl rfl (by simp only [dstOk, Nat.reduceLT]) (by repeat (first | exact trivial | constructor)) (runs_eval tab_ok ?_))
          simp only [ev0, evA, evB, evP, fl, gp, tab, simprocAttr, reduceCtorEq, reduceIte, decide_eq_true hb, ec, cat2]
          refine fin_stop trivial (runs_call (ints_c w w (by omega)) rfl rfl rfl (by simp only [dstOk, Nat.reduceLT]) (by repeat (first | exact trivial | constructor)) (runs_eval tab_ok ?_))
          simp only [ev0, evA, evB, evP, fl, gp, tab, simprocAttr, reduceCtorEq, reduceIte, decide_eq_true hb, ec, cat2]
          refine fin_stop trivial (runs_call (behind_c [v, w] (by simp; omega) (by simp) (by rw [cat2]; exact (check_sm b1).1.app (check_sm b2).1)) rfl rfl rfl (by simp only [dstOk, Nat.reduceLT]) (by repeat (first | exact trivial | constructor)) (runs_eval tab_ok ?_))
          simp only [ev0, evA, evB, evP, fl, gp, tab, simprocAttr, reduceCtorEq, reduceIte, decide_eq_true hb, ec, cat2]
          refine fin_stop trivial (runs_call (behind_c [w, v] (by simp; omega) (by simp) (by rw [cat2]; exact (check_sm b2).1.app (check_sm b1).1)) rfl rfl rfl (by simp only [dstOk, Nat.reduceLT]) (by repeat (first | exact trivial | constructor)) (runs_eval tab_ok ?_))
          simp only [ev0, evA, evB, evP, fl, gp, tab, simprocAttr, reduceCtorEq, reduceIte, decide_eq_true hb, ec, cat2]
          refine fin_stop trivial (runs_call (ints_c (short (v ++ w)) (short (w ++ v)) (by have := short_len (v ++ w); rw [List.length_append] at this; omega)) rfl rfl rfl (by simp only [dstOk, Nat.reduceLT]) (by repeat (first | exact trivial | constructor)) (runs_eval tab_ok ?_))
          simp only [ev0, evA, evB, evP, fl, gp, tab, simprocAttr, reduceCtorEq, reduceIte, decide_eq_true hb, ec, cat2]
          refine fin_run ?_ (hK _ ?_) <;> clear hK <;> clear K
          · (first | exact trivial | omega | (simp only [In64] at *; omega) | (simp [In64] at *; omega) | (simp_all; done) | skip)
          repeat (first | refine thn_n ?_ | refine thn_r ?_ | refine thn_x ?_ | refine inb_n ?_ | refine inb_r ?_ | refine inb_x ?_ | refine inb_y rfl ?_ | refine hk_skip ?_ | refine hk_label ?_ | refine hk_exit ?_ | refine hk_ret ?_ | refine hk_block ?_ | refine hk_seq ?_)
          refine hk_cond rfl (fun hC3 => ?_) (fun hC3 => ?_)
          · cases hC3
          · (try simp only [nhs] at hC3)
            repeat (first | refine thn_n ?_ | refine thn_r ?_ | refine thn_x ?_ | refine inb_n ?_ | refine inb_r ?_ | refine inb_x ?_ | refine inb_y rfl ?_ | refine hk_skip ?_ | refine hk_label ?_ | refine hk_exit ?_ | refine hk_ret ?_ | refine hk_block ?_ | refine hk_seq ?_)
            refine hk_freeze 0 rfl rfl ?_
            refine hk_freeze 1 rfl rfl ?_
            simp only [hset]
            refine hk_region fun K hK => runs_eval tab_ok ?_
            simp only [ev0, evA, evB, evP, fl, gp, tab, simprocAttr, reduceCtorEq, reduceIte]
            refine fin_stop trivial (runs_call (listAs_c (reduceS v).1 (check v) _ _ (reduceS_len v hv) (fun h => by unfold reduceS; rw [if_pos h]) fun h => reck1_c v hv h) rfl rfl rfl (by simp only [dstOk, Nat.reduceLT]) (by repeat (first | exact trivial | constructor)) (runs_eval tab_ok ?_))
            simp only [ev0, evA, evB, evP, fl, gp, tab, simprocAttr, reduceCtorEq, reduceIte]
            refine fin_stop trivial (runs_call (listAs_c (mulS v w).1 (wf v w) _ _ (mulS_len v w hv hw) (fun h => by unfold mulS; rw [allS_wf, if_pos h]) fun h => reck2_c v w hv hw h) rfl rfl rfl (by simp only [dstOk, Nat.reduceLT]) (by repeat (first | exact trivial | constructor)) (runs_eval tab_ok ?_))
            simp only [ev0, evA, evB, evP, fl, gp, tab, simprocAttr, reduceCtorEq, reduceIte]
            refine fin_stop trivial (runs_call (listAs_c (invS v).1 (check v) _ _ (invS_len v hv) (fun h => by unfold invS; rw [if_pos h]) fun h => reck3_c v hv h) rfl rfl rfl (by simp only [dstOk, Nat.reduceLT]) (by repeat (first | exact trivial | constructor)) (runs_eval tab_ok ?_))
            simp only [ev0, evA, evB, evP, fl, gp, tab, simprocAttr, reduceCtorEq, reduceIte]
            refine fin_run ?_ (hK _ ?_) <;> clear hK <;> clear K
            · (first | exact trivial | omega | (simp only [In64] at *; omega) | (simp [In64] at *; omega) | (simp_all; done) | skip)
            repeat (first | refine thn_n ?_ | refine thn_r ?_ | refine thn_x ?_ | refine inb_n ?_ | refine inb_r ?_ | refine inb_x ?_ | refine inb_y rfl ?_ | refine hk_skip ?_ | refine hk_label ?_ | refine hk_exit ?_ | refine hk_ret ?_ | refine hk_block ?_ | refine hk_seq ?_)
            simp only [Try.results9, enA, ev0, evA, evB, evP, fl, gp, tab, simprocAttr, reduceCtorEq, reduceIte]
            all_goals ((first | exact rfl | exact ⟨rfl, rfl⟩ | exact ⟨rfl, rfl, rfl⟩ | exact ⟨trivial, rfl⟩ | exact ⟨Nat.le_refl _, rfl⟩ | trivial | (simp; done)))
        · have ec : (commS v w).1 = false := by unfold commS; rw [allS_wf, if_pos hb]
          refine hk_draw mixed (by kernel_rfl) fun K hK => runs_eval tab_ok ?_
          simp only [ev0, evA, evB, evP, fl, gp, tab, simprocAttr, reduceCtorEq, reduceIte, decide_eq_false hb, ec]
          refine fin_stop trivial (runs_call (ints_c v v (by omega)) rfl rfl rfl (by simp only [dstOk, Nat.reduceLT]) (by repeat (first | exact trivial | constructor)) (runs_eval tab_ok ?_))
          simp only [ev0, evA, evB, evP, fl, gp, tab, simprocAttr, reduceCtorEq, reduceIte, decide_eq_false hb, ec]
          refine fin_stop trivial (runs_call (ints_c w w (by omega)) rfl rfl rfl (by simp only [dstOk, Nat.reduceLT]) (by repeat (first | exact trivial | constructor)) (runs_eval tab_ok ?_))
          simp only [ev0, evA, evB, evP, fl, gp, tab, simprocAttr, reduceCtorEq, reduceIte, decide_eq_false hb, ec]
          refine fin_run ?_ (hK _ ?_) <;> clear hK <;> clear K
          · (first | exact trivial | omega | (simp only [In64] at *; omega) | (simp [In64] at *; omega) | (simp_all; done) | skip)
          repeat (first | refine thn_n ?_ | refine thn_r ?_ | refine thn_x ?_ | refine inb_n ?_ | refine inb_r ?_ | refine inb_x ?_ | refine inb_y rfl ?_ | refine hk_skip ?_ | refine hk_label ?_ | refine hk_exit ?_ | refine hk_ret ?_ | refine hk_block ?_ | refine hk_seq ?_)
          refine hk_cond rfl (fun hC3 => ?_) (fun hC3 => ?_)
          · cases hC3
          · (try simp only [nhs] at hC3)
            repeat (first | refine thn_n ?_ | refine thn_r ?_ | refine thn_x ?_ | refine inb_n ?_ | refine inb_r ?_ | refine inb_x ?_ | refine inb_y rfl ?_ | refine hk_skip ?_ | refine hk_label ?_ | refine hk_exit ?_ | refine hk_ret ?_ | refine hk_block ?_ | refine hk_seq ?_)
            refine hk_freeze 0 rfl rfl ?_
            refine hk_freeze 1 rfl rfl ?_
            simp only [hset]
            refine hk_region fun K hK => runs_eval tab_ok ?_
            simp only [ev0, evA, evB, evP, fl, gp, tab, simprocAttr, reduceCtorEq, reduceIte]
            refine fin_stop trivial (runs_call (listAs_c (reduceS v).1 (check v) _ _ (reduceS_len v hv) (fun h => by unfold reduceS; rw [if_pos h]) fun h => reck1_c v hv h) rfl rfl rfl (by simp only [dstOk, Nat.reduceLT]) (by repeat (first | exact trivial | constructor)) (runs_eval tab_ok ?_))
            simp only [ev0, evA, evB, evP, fl, gp, tab, simprocAttr, reduceCtorEq, reduceIte]
            refine fin_stop trivial (runs_call (listAs_c (mulS v w).1 (wf v w) _ _ (mulS_len v w hv hw) (fun h => by unfold mulS; rw [allS_wf, if_pos h]) fun h => reck2_c v w hv hw h) rfl rfl rfl (by simp only [dstOk, Nat.reduceLT]) (by repeat (first | exact trivial | constructor)) (runs_eval tab_ok ?_))
            simp only [ev0, evA, evB, evP, fl, gp, tab, simprocAttr, reduceCtorEq, reduceIte]
            refine fin_stop trivial (runs_call (listAs_c (invS v).1 (check v) _ _ (invS_len v hv) (fun h => by unfold invS; rw [if_pos h]) fun h => reck3_c v hv h) rfl rfl rfl (by simp only [dstOk, Nat.reduceLT]) (by repeat (first | exact trivial | constructor)) (runs_eval tab_ok ?_))
            simp only [ev0, evA, evB, evP, fl, gp, tab, simprocAttr, reduceCtorEq, reduceIte]
            refine fin_run ?_ (hK _ ?_) <;> clear hK <;> clear K
            · (first | exact trivial | omega | (simp only [In64] at *; omega) | (simp [In64] at *; omega) | (simp_all; done) | skip)
            repeat (first | refine thn_n ?_ | refine thn_r ?_ | refine thn_x ?_ | refine inb_n ?_ | refine inb_r ?_ | refine inb_x ?_ | refine inb_y rfl ?_ | refine hk_skip ?_ | refine hk_label ?_ | refine hk_exit ?_ | refine hk_ret ?_ | refine hk_block ?_ | refine hk_seq ?_)
            simp only [Try.results9, enA, ev0, evA, evB, evP, fl, gp, tab, simprocAttr, reduceCtorEq, reduceIte]
            all_goals ((first | exact rfl | exact ⟨rfl, rfl⟩ | exact ⟨rfl, rfl, rfl⟩ | exact ⟨trivial, rfl⟩ | exact ⟨Nat.le_refl _, rfl⟩ | trivial | (simp; done)))
end Go.Proofs.Ythmgpgkfeknhgaa
