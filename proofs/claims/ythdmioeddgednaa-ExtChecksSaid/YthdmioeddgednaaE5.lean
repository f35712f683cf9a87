/-
  Walks: extensions: what all bounds span; bounds; what is the same; what is made. Conditions: none.
-/
import Derived.Test.YthdmioeddgednaaE4
set_option linter.all false
namespace Go.Proofs.Ythdmioeddgednaa
open Go.Pv

/-- A list that is 1 at one place. -/
def un1 (n a : Nat) : List Int := (List.replicate n 0).set a 1

theorem un1_len (n a : Nat) : (un1 n a).length = n := by simp [un1]
theorem un1_get {n a t : Nat} (ha : a < n) (ht : t < n) : (un1 n a).getD t 0 = if t = a then 1 else 0 := by
  unfold un1
  rw [List.getD_eq_getElem?_getD, List.getElem?_set]
  by_cases h : a = t
  · subst h; simp [ha]
  · rw [if_neg h, if_neg (fun e => h e.symm)]; simp [ht]

/-- The rows of the first things' bounds. -/
def spK (n : Nat) (m : List Int) (p : Nat) : Nat → List (Nat × List Int)
  | 0 => []
  | k + 1 => (addL p (spK n m p k) (dl n m p (un1 n k))).1

theorem spK_ech {n p : Nat} (hp : pr p) (m : List Int) : ∀ k, Ech p (n * n) (spK n m p k)
  | 0 => Ech.nil _ _
  | k + 1 => (addL_spec hp (spK_ech hp m k) (dl_len n m p (un1 n k))).1

theorem dB_lin {n : Nat} {m : List Int} (a b : Int) (c d : Nat → Int) (t : Nat) : dB n m (fun k => a * c k + b * d k) t = a * dB n m c t + b * dB n m d t := by
  simp only [dB, Int.mul_add, Int.mul_sub]; omega

theorem dB_congr {n : Nat} {m : List Int} (T : Tab n m) {c d : Nat → Int} (h : ∀ a, a < n → c a = d a) {t : Nat} (ht : t < n * n) : dB n m c t = dB n m d t := by
  have hn := T.pos
  have h1 : t / n < n := (Nat.div_lt_iff_lt_mul (by omega)).2 ht
  have h2 : t % n < n := Nat.mod_lt _ (by omega)
  simp only [dB, h _ h1, h _ h2, h _ (T.lt h1 h2)]

theorem spK_sp {n p : Nat} (hp : pr p) {m : List Int} (T : Tab n m) : ∀ k, k ≤ n → ∀ x : Nat → Int, Sp p (n * n) (spK n m p k) x ↔ ∃ c : Nat → Int, (∀ a, k ≤ a → c a = 0) ∧ ∀ t, t < n * n → (p : Int) ∣ x t - dB n m c t
  | 0, _, x => by
    constructor
    · rintro ⟨c, hc⟩
      refine ⟨fun _ => 0, fun _ _ => rfl, fun t ht => ?_⟩
      have := hc t ht
      simpa [spK, lsum, dB] using this
    · rintro ⟨c, hc0, hc⟩
      refine Sp.zero fun t ht => ?_
      have := hc t ht
      simpa [dB, hc0] using this
  | k + 1, hk, x => by
    have hdl : ∀ t, t < n * n → (p : Int) ∣ (dl n m p (un1 n k)).getD t 0 - dB n m (dl1 k) t := fun t ht => by
      rw [dl_get ht, dB_congr T (c := fun a => (un1 n k).getD a 0) (d := dl1 k) (fun a ha => by rw [un1_get (by omega) ha]; rfl) ht]
      exact dvd_emod_sub _ _
    have h1 := (addL_spec hp (spK_ech hp m k) (dl_len n m p (un1 n k))).2.2.1 x
    show Sp p (n * n) (addL p (spK n m p k) (dl n m p (un1 n k))).1 x ↔ _
    rw [h1]
    constructor
    · rintro ⟨t, ht⟩
      obtain ⟨c, c1, c2⟩ := (spK_sp hp T k (by omega) _).1 ht
      refine ⟨fun a => 1 * c a + t * dl1 k a, fun a ha => by simp [c1 a (by omega), dl1, show a ≠ k by omega], fun j hj => ?_⟩
      rw [dB_lin]
      have e : x j - (1 * dB n m c j + t * dB n m (dl1 k) j) = (x j - t * (dl n m p (un1 n k)).getD j 0 - dB n m c j) + t * ((dl n m p (un1 n k)).getD j 0 - dB n m (dl1 k) j) := by
        rw [Int.mul_sub]; omega
      rw [e]
      exact Int.dvd_add (c2 j hj) (Int.dvd_mul_of_dvd_right (hdl j hj))
    · rintro ⟨c, c1, c2⟩
      refine ⟨c k, (spK_sp hp T k (by omega) _).2 ⟨fun a => 1 * c a + (-(c k)) * dl1 k a, fun a ha => ?_, fun j hj => ?_⟩⟩
      · by_cases h : a = k
        · subst h; simp [dl1]; omega
        · simp [c1 a (by omega), dl1, h]
      · rw [dB_lin]
        have e : x j - c k * (dl n m p (un1 n k)).getD j 0 - (1 * dB n m c j + -(c k) * dB n m (dl1 k) j) = (x j - dB n m c j) + (-(c k)) * ((dl n m p (un1 n k)).getD j 0 - dB n m (dl1 k) j) := by
          rw [Int.mul_sub, Int.neg_mul, Int.neg_mul]; omega
        rw [e]
        exact Int.dvd_add (c2 j hj) (Int.dvd_mul_of_dvd_right (hdl j hj))

theorem xspan_c {n e p : Nat} {m : List Int} (h : GT n m n e) (hn : n ≤ 12) (hp : pr p) :
    FnM Try.prog 32 [.p (gp n m), .p (.int .i64 p)] [] (.ptr 0 0) [.own [.p (.int .i64 p), .mptr 1], .mp .i64 (dOf (spK n m p n)) (vOf (spK n m p n))] := by
  have T := h.2.1
  have hpos := T.pos
  have hp2 := hp.le
  have hsq : n * n ≤ 144 := Nat.mul_le_mul hn hn
  have hsq1 : 0 < n * n := Nat.mul_pos hpos hpos
  refine fnm_of tab_ok Try.func32 rfl (by kernel_rfl) (by rw [Try.ntmps32]; exact Nat.le_add_left 2 _) ?_; rw [Try.ntmps32]; simp only [ancs, entA, List.length_cons, List.length_nil, List.cons_append, List.nil_append, Nat.reduceAdd, Nat.zero_add]
  refine qm ?_
  refine hk_region fun K hK => runs_eval tab_ok ?_
  simp only [ev0, evA, evB, evP, fl, gp, tab, simprocAttr, reduceCtorEq, reduceIte]
  refine fin_run ?_ (hK _ ?_) <;> clear hK <;> clear K
  · (first | exact trivial | omega | (simp only [In64] at *; omega) | (simp [In64] at *; omega) | (simp_all; done) | skip)
  refine qa (qm ?_)
  refine hk_region fun K hK => runs_eval tab_ok ?_
  simp only [ev0, evA, evB, evP, fl, gp, tab, simprocAttr, reduceCtorEq, reduceIte]
  refine fin_stop ?_ (runs_callM [] (newRows_c p) rfl rfl ?_ (by simp only [leA, ev0, evA, evB, evP, fl, gp, tab, simprocAttr, reduceCtorEq, reduceIte]; first | trivial | (repeat constructor)) (by decide) (by first | rfl | (simp only [List.length_cons, List.length_nil, List.length_append]; decide)) (by first | rfl | (simp [scM, scA, sc1, mpKeep, notAnc]; done)) (by simp only [dstOk, Nat.reduceLT]) (runs_eval tab_ok ?_))
  · (first | exact trivial | omega | (simp only [In64] at *; omega) | (simp [In64] at *; omega) | (simp_all; done) | skip)
  · (simp only [argsM, argM1, peekG, peekS, scA, sc1, ren, ren1, List.map_cons, List.map_nil, List.append_nil, List.cons_append, List.nil_append, enA, ev0, evA, evB, evP, fl, gp, tab, simprocAttr, reduceCtorEq, reduceIte]; try trivial)
  simp only [putM, hset, List.range', Blk.ren, ren, ren1, List.map_cons, List.map_nil, List.cons_append, List.nil_append, List.append_nil, List.length_cons, List.length_nil, ev0, evA, evB, evP, fl, gp, tab, simprocAttr, reduceCtorEq, reduceIte]
  refine fin_run trivial (hK _ ?_) <;> clear hK <;> clear K
  refine qa (qm (qm ?_))
  refine hk_region fun K hK => runs_eval tab_ok ?_
  simp only [ev0, evA, evB, evP, fl, gp, tab, simprocAttr, reduceCtorEq, reduceIte]
  refine fin_run ?_ (hK _ ?_) <;> clear hK <;> clear K
  · (first | exact trivial | omega | (simp only [In64] at *; omega) | (simp [In64] at *; omega) | (simp_all; done) | skip)
  refine qa (ql ?_)
  refine hk_loop (ι := Nat) (fun a => ⟨29, [(1, .p (.int .i64 p)), (2, .ptr 0 0), (5, .ptr 1 0), (11, .p (.int .i64 n)), (12, .p (.int .i64 a))], [.own [.p (.int .i64 n), .p (.list (il m))], .own [.p (.int .i64 p), .mptr 2], .mp .i64 (dOf (spK n m p a)) (vOf (spK n m p a))]⟩) (fun a => a ≤ n) (fun a => n - a) 0 (Nat.zero_le _) [0, 1, 2] (by simp only [leq, leA, ev0, evA, evB, evP, fl, gp, tab, simprocAttr, reduceCtorEq, reduceIte]; rfl) fun a ha => ?_
  refine qm ?_
  refine hk_region fun K hK => runs_eval tab_ok ?_
  simp only [ev0, evA, evB, evP, fl, gp, tab, simprocAttr, reduceCtorEq, reduceIte]
  refine fin_run trivial (hK _ ?_) <;> clear hK <;> clear K
  refine qa (qm ?_)
  refine hk_cond rfl (fun hC1 => ?_) (fun hC1 => ?_)
  · (try simp only [nhs] at hC1)
    have hal : a < n := by omega
    refine qh (qa (qm (ql (qm ?_))))
    refine hk_region fun K hK => runs_eval tab_ok ?_
    simp only [ev0, evA, evB, evP, fl, gp, tab, simprocAttr, reduceCtorEq, reduceIte]
    refine fin_run trivial (hK _ ?_) <;> clear hK <;> clear K
    refine qa (qm ?_)
    refine hk_region fun K hK => runs_eval tab_ok ?_
    simp only [ev0, evA, evB, evP, fl, gp, tab, simprocAttr, reduceCtorEq, reduceIte, ol_replicate]
    refine fin_run ?_ (hK _ ?_) <;> clear hK <;> clear K
    · (first | exact trivial | omega | (simp only [In64] at *; omega) | (simp [In64] at *; omega) | (simp_all; done) | skip)
    refine qa (qm ?_)
    refine hk_region fun K hK => runs_eval tab_ok ?_
    simp only [ev0, evA, evB, evP, fl, gp, tab, simprocAttr, reduceCtorEq, reduceIte, ol_set]
    refine fin_run ?_ (hK _ ?_) <;> clear hK <;> clear K
    · (first | exact trivial | omega | (simp only [In64] at *; omega) | (simp [In64] at *; omega) | (simp_all; done) | skip)
    refine qa ?_
    refine hk_seal 7 3 (w := un1 n a) (by rw [un1_len]; rfl) rfl ?_
    refine hk_region fun K hK => runs_eval tab_ok ?_
    simp only [ev0, evA, evB, evP, fl, gp, tab, simprocAttr, reduceCtorEq, reduceIte]
    refine fin_stop trivial (runs_call (bounds_c h hn hp (un1 n a) (un1_len n a) (fun t ht => by rw [un1_get hal ht]; split <;> omega)) rfl rfl rfl (by simp only [dstOk, Nat.reduceLT]) (by repeat (first | exact trivial | constructor)) (runs_eval tab_ok ?_))
    simp only [ev0, evA, evB, evP, fl, gp, tab, simprocAttr, reduceCtorEq, reduceIte]
    refine fin_stop ?_ (runs_callM [1, 2] (add_c hp hsq1 (by omega) (spK n m p a) (spK_ech hp m a) (dl n m p (un1 n a)) (dl_len n m p _) (fun t ht => by have := dl_rng (show 0 < p by omega) (n := n) (m := m) (un1 n a) t (by rw [dl_len]; exact ht); omega)) rfl rfl ?_ (by simp only [leA, ev0, evA, evB, evP, fl, gp, tab, simprocAttr, reduceCtorEq, reduceIte]; first | trivial | (repeat constructor)) (by decide) (by first | rfl | (simp only [List.length_cons, List.length_nil, List.length_append]; decide)) (by first | rfl | (simp [scM, scA, sc1, mpKeep, notAnc]; done)) (by simp only [dstOk, Nat.reduceLT]) (runs_eval tab_ok ?_))
    · (first | exact trivial | omega | (simp only [In64] at *; omega) | (simp [In64] at *; omega) | (simp_all; done) | skip)
    · (simp only [argsM, argM1, peekG, peekS, scA, sc1, ren, ren1, List.map_cons, List.map_nil, List.append_nil, List.cons_append, List.nil_append, enA, ev0, evA, evB, evP, fl, gp, tab, simprocAttr, reduceCtorEq, reduceIte]; try trivial)
    simp only [putM, hset, List.range', Blk.ren, ren, ren1, List.map_cons, List.map_nil, List.cons_append, List.nil_append, List.append_nil, List.length_cons, List.length_nil, ev0, evA, evB, evP, fl, gp, tab, simprocAttr, reduceCtorEq, reduceIte]
    refine fin_run ?_ (hK _ ?_) <;> clear hK <;> clear K
    · (first | exact trivial | omega | (simp only [In64] at *; omega) | (simp [In64] at *; omega) | (simp_all; done) | skip)
    refine qd (qa ?_)
    refine hk_region fun K hK => runs_eval tab_ok ?_
    simp only [ev0, evA, evB, evP, fl, gp, tab, simprocAttr, reduceCtorEq, reduceIte]
    refine fin_run ?_ (hK _ ?_) <;> clear hK <;> clear K
    · (first | exact trivial | omega | (simp only [In64] at *; omega) | (simp [In64] at *; omega) | (simp_all; done) | skip)
    refine qa ?_
    refine ⟨a + 1, [0, 1, 2], by omega, by omega, ?_⟩
    simp only [leq, leA, ev0, evA, evB, evP, fl, gp, tab, simprocAttr, reduceCtorEq, reduceIte] <;> first | trivial | omega
  · (try simp only [nhs] at hC1)
    refine qj (qc (qc (qf (qa (qm ?_)))))
    refine hk_region fun K hK => runs_eval tab_ok ?_
    simp only [ev0, evA, evB, evP, fl, gp, tab, simprocAttr, reduceCtorEq, reduceIte]
    refine fin_run trivial (hK _ ?_) <;> clear hK <;> clear K
    refine qa (qk ?_)
    simp only [Try.results32, PostG, endG, rvsA, rvA, mkTup, ev0, evA, evB, evP, fl, gp, tab, simprocAttr, reduceCtorEq, reduceIte]
    have han : a = n := by omega
    rw [han]
    exact ⟨[1, 2], rfl, rfl, rfl, by simp, ⟨⟨rfl, rfl⟩, rfl, trivial⟩, trivial⟩

end Go.Proofs.Ythdmioeddgednaa
