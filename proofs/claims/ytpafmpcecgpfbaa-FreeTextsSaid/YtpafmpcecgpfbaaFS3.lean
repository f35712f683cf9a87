/-
  Walks: the law FreeTexts. Conditions: none.
-/
import Derived.Test.YtpafmpcecgpfbaaFS2
set_option linter.all false
namespace Go.Proofs.Ytpafmpcecgpfbaa
open Go.Pv

/-! ### What is written and read again -/

theorem byl_str (v : List Int) (h : ∀ x ∈ v, 0 ≤ x ∧ x < 256) : byl (strOfNums v) = v := by
  unfold byl
  rw [strOfNums_data, List.map_map]
  conv => rhs; rw [← List.map_id v]
  refine List.map_congr_left fun x hx => ?_
  obtain ⟨h0, h1⟩ := h x hx
  simp only [Function.comp, id]
  rw [UInt8.toNat_ofNat']
  omega

theorem str_byl (s : ByteArray) : strOfNums (byl s) = s := by
  cases s with | mk d =>
  unfold strOfNums byl
  rw [List.map_map]
  congr 1
  have : (d.toList.map ((fun n : Int => UInt8.ofNat n.toNat) ∘ fun b : UInt8 => (b.toNat : Int))) = d.toList := by
    conv => rhs; rw [← List.map_id d.toList]
    refine List.map_congr_left fun b _ => ?_
    simp
  rw [this]

theorem byteAt_byl (s : ByteArray) {i : Nat} (h : i < s.size) : byteAt s i = (byl s).getD i 0 := by
  unfold byteAt byl
  have h' : i < s.data.toList.length := by rw [Array.length_toList]; exact h
  rw [List.getD_eq_getElem?_getD, List.getD_eq_getElem?_getD, List.getElem?_map, List.getElem?_eq_getElem h']
  rfl

theorem tb_rng {x : Int} (h : x ≠ 0 ∧ -26 ≤ x ∧ x ≤ 26) : (97 ≤ tb x ∧ tb x ≤ 122 ∨ 65 ≤ tb x ∧ tb x ≤ 90) ∧ unb (tb x) = x := by
  unfold tb unb
  split <;> split <;> omega
theorem unb_rng {c : Int} (h : 97 ≤ c ∧ c ≤ 122 ∨ 65 ≤ c ∧ c ≤ 90) : (unb c ≠ 0 ∧ -26 ≤ unb c ∧ unb c ≤ 26) ∧ tb (unb c) = c := by
  unfold tb unb
  split <;> split <;> omega
theorem txb_rng {w : List Int} (h : Okw w) : ∀ x ∈ txb w, 0 ≤ x ∧ x < 256 := by
  intro x hx
  simp only [txb, List.mem_map] at hx
  obtain ⟨y, hy, rfl⟩ := hx
  have := (tb_rng (h y hy)).1
  omega

theorem bad_letters : ∀ (u : List Int) (i : Nat), (∀ c ∈ u, 97 ≤ c ∧ c ≤ 122 ∨ 65 ≤ c ∧ c ≤ 90) → bad i u = (0, 0)
  | [], _, _ => rfl
  | c :: r, i, h => by
    rw [bad, if_pos (h c (by simp))]
    exact bad_letters r (i + 1) fun x hx => h x (by simp [hx])
theorem letters_bad : ∀ (u : List Int) (i : Nat), (bad i u).1 = 0 → ∀ c ∈ u, 97 ≤ c ∧ c ≤ 122 ∨ 65 ≤ c ∧ c ≤ 90
  | [], _, _ => fun x hx => by simp at hx
  | c :: r, i, h => by
    rw [bad] at h
    split at h
    · rename_i hc
      intro x hx
      rcases List.mem_cons.1 hx with rfl | hx
      · exact hc
      · exact letters_bad r (i + 1) h x hx
    · simp at h

theorem textS_2 (w : List Int) : (textS w).2 = check w := by
  unfold textS
  split
  · rfl
  · rename_i h
    have h : (check w).1 = 0 := by simpa using h
    have := check_okw h
    rw [okw_check this.1 this.2]
    split <;> rfl

theorem text_size {w : List Int} (h : (check w).1 = 0) (hne : w ≠ []) : (textS w).1.size = w.length := by
  rw [textS, if_neg (by simp [h]), if_neg hne]
  simp only
  rw [strOfNums_size, txb_length]
theorem text_byl {w : List Int} (h : (check w).1 = 0) (hne : w ≠ []) : byl (textS w).1 = txb w := by
  rw [textS, if_neg (by simp [h]), if_neg hne]
  exact byl_str _ (txb_rng (check_okw h).1)
theorem text_at {w : List Int} (h : (check w).1 = 0) {i : Nat} (hi : i < w.length) : byteAt (textS w).1 i = tb (w.getD i 0) := by
  have hne : w ≠ [] := by intro e; rw [e] at hi; simp at hi
  rw [byteAt_byl _ (by rw [text_size h hne]; exact hi), text_byl h hne]
  simp [txb, List.getD, List.getElem?_eq_getElem hi]

theorem parse_text {w : List Int} (h : (check w).1 = 0) : parseS (textS w).1 = (w, (0, 0)) := by
  obtain ⟨hok, hl⟩ := check_okw h
  by_cases hne : w = []
  · subst hne
    have e : (textS []).1 = ⟨#[49]⟩ := by rw [textS, if_neg (by simp [h]), if_pos rfl]
    rw [e, parseS, if_neg (by decide), if_pos rfl]
  · have h1 := text_byl h hne
    have h2 := text_size h hne
    have hlet : ∀ c ∈ txb w, 97 ≤ c ∧ c ≤ 122 ∨ 65 ≤ c ∧ c ≤ 90 := by
      intro c hc
      simp only [txb, List.mem_map] at hc
      obtain ⟨y, hy, rfl⟩ := hc
      exact (tb_rng (hok y hy)).1
    have hn1 : (textS w).1 ≠ ⟨#[49]⟩ := by
      intro e
      rw [e] at h1
      have : (49 : Int) ∈ txb w := by rw [← h1]; decide
      have := hlet 49 this
      omega
    have hn2 : txb w ≠ [] := by intro e; apply hne; simpa [txb] using e
    rw [parseS, if_neg (by rw [h2]; omega), if_neg hn1, h1, if_neg hn2, if_neg (by rw [bad_letters _ _ hlet]; simp)]
    congr 1
    rw [txb, List.map_map]
    conv => rhs; rw [← List.map_id w]
    refine List.map_congr_left fun x hx => ?_
    exact (tb_rng (hok x hx)).2

theorem parse_none {s : ByteArray} (h : (parseS s).2.1 ≠ 0) : (parseS s).1 = [] := by
  unfold parseS at h ⊢
  by_cases h1 : (s.size : Int) > 2000
  · rw [if_pos h1]
  rw [if_neg h1] at h ⊢
  by_cases h2 : s = ⟨#[49]⟩
  · rw [if_pos h2]
  rw [if_neg h2] at h ⊢
  by_cases h3 : byl s = []
  · rw [if_pos h3]
  rw [if_neg h3] at h ⊢
  by_cases h4 : (bad 0 (byl s)).1 ≠ 0
  · rw [if_pos h4]
  · rw [if_neg h4] at h; exact absurd rfl h
theorem bad_zero : ∀ (u : List Int) (i : Nat), (bad i u).1 = 0 → bad i u = (0, 0) := fun u i h => bad_letters u i (letters_bad u i h)

theorem text_parse {s : ByteArray} (h1 : s ≠ ⟨#[49]⟩) (h : (parseS s).2.1 = 0) : textS (parseS s).1 = (s, (0, 0)) := by
  unfold parseS at h ⊢
  by_cases h2 : (s.size : Int) > 2000
  · rw [if_pos h2] at h; simp at h
  rw [if_neg h2, if_neg h1] at h ⊢
  by_cases h3 : byl s = []
  · rw [if_pos h3] at h; simp at h
  rw [if_neg h3] at h ⊢
  by_cases h4 : (bad 0 (byl s)).1 ≠ 0
  · rw [if_pos h4] at h; exact absurd h h4
  rw [if_neg h4]
  have hlet := letters_bad _ _ (Decidable.of_not_not h4)
  have hok : Okw ((byl s).map unb) := by
    intro x hx
    simp only [List.mem_map] at hx
    obtain ⟨c, hc, rfl⟩ := hx
    exact (unb_rng (hlet c hc)).1
  have hck : check ((byl s).map unb) = (0, 0) := okw_check hok (by rw [List.length_map, byl_length]; omega)
  rw [textS, hck, if_neg (by simp), if_neg (by simpa using h3)]
  congr 1
  have : txb ((byl s).map unb) = byl s := by
    rw [txb, List.map_map]
    conv => rhs; rw [← List.map_id (byl s)]
    refine List.map_congr_left fun x hx => ?_
    exact (unb_rng (hlet x hx)).2
  rw [this, str_byl]

theorem parse_2 {s : ByteArray} (h0 : ¬ (s.size : Int) > 2000) (h1 : s ≠ ⟨#[49]⟩) (h2 : byl s ≠ []) : (parseS s).2 = bad 0 (byl s) := by
  rw [parseS, if_neg h0, if_neg h1, if_neg h2]
  split
  · rfl
  · rename_i h
    exact (bad_zero _ _ (Decidable.of_not_not h)).symm

theorem ba_self (a : ByteArray) : (a == a) = true := (ba_beq a a).2 rfl
theorem ba_nself (a : ByteArray) : (a != a) = false := by rw [bne, ba_self]; rfl
theorem ba_ne {a b : ByteArray} (h : a ≠ b) : (a == b) = false := by
  cases e : (a == b) with
  | false => rfl
  | true => exact absurd ((ba_beq a b).1 e) h
theorem ba_bne {a b : ByteArray} (h : a ≠ b) : (a != b) = true := by rw [bne, ba_ne h]; rfl


set_option maxHeartbeats 4000000 in
/-- Where the word is one. -/
theorem texts1_c (w : List Int) (s : ByteArray) (hc : (check w).1 = 0) : FnC Try.prog 3 [.list (il w), .str s] (.bool true) := by
  have hsz := byl_length s
  have hc2 : check w = (0, 0) := by obtain ⟨a, b⟩ := check_okw hc; exact okw_check a b
  have ht2 := textS_2 w
  have hpt := parse_text hc
  refine fnc_of tab_ok Try.func3 rfl (by kernel_rfl) (by rw [Try.ntmps3]; exact Nat.le_add_left 2 _) ?_; rw [Try.ntmps3]
  refine qm ?_
  refine hk_region fun K hK => runs_eval tab_ok ?_
  simp only [ev0, evA, evB, evP, fl, gp, tab, simprocAttr, reduceCtorEq, reduceIte]
  refine fin_run trivial (hK _ ?_) <;> clear hK <;> clear K
  refine qa (qm (qm ?_))
  refine hk_region fun K hK => runs_eval tab_ok ?_
  simp only [ev0, evA, evB, evP, fl, gp, tab, simprocAttr, reduceCtorEq, reduceIte]
  refine fin_stop trivial (runs_call (begun_c) rfl rfl rfl (by simp only [dstOk, Nat.reduceLT]) (by repeat (first | exact trivial | constructor)) (runs_eval tab_ok ?_))
  simp only [ev0, evA, evB, evP, fl, gp, tab, simprocAttr, reduceCtorEq, reduceIte]
  refine fin_run trivial (hK _ ?_) <;> clear hK <;> clear K
  refine qa ?_
  refine hk_cond rfl (fun hC1 => ?_) (fun hC1 => ?_)
  · cases hC1
  · (try simp only [nhs] at hC1)
    refine qh (qa (qm (qm ?_)))
    by_cases g3a : (w.length : Int) > 5000
    · refine hk_region fun K hK => runs_eval tab_ok ?_
      simp only [ev0, evA, evB, evP, fl, gp, tab, simprocAttr, reduceCtorEq, reduceIte, decide_eq_true g3a]
      refine fin_run trivial (hK _ ?_) <;> clear hK <;> clear K
      refine qa ?_
      refine hk_cond rfl (fun hC2 => ?_) (fun hC2 => ?_)
      · refine qm ?_
        refine hk_region fun K hK => runs_eval tab_ok ?_
        simp only [ev0, evA, evB, evP, fl, gp, tab, simprocAttr, reduceCtorEq, reduceIte]
        refine fin_run trivial (hK _ ?_) <;> clear hK <;> clear K
        refine qa (qk (qb ?_))
        simp only [Try.results3, enA, ev0, evA, evB, evP, fl, gp, tab, simprocAttr, reduceCtorEq, reduceIte]
        all_goals ((first | exact rfl | exact ⟨rfl, rfl⟩ | exact ⟨rfl, rfl, rfl⟩ | exact ⟨trivial, rfl⟩ | exact ⟨Nat.le_refl _, rfl⟩ | trivial | (simp; done)))
      · cases hC2
    · refine hk_region fun K hK => runs_eval tab_ok ?_
      simp only [ev0, evA, evB, evP, fl, gp, tab, simprocAttr, reduceCtorEq, reduceIte, decide_eq_false g3a]
      refine fin_run trivial (hK _ ?_) <;> clear hK <;> clear K
      refine qa ?_
      refine hk_cond rfl (fun hC2 => ?_) (fun hC2 => ?_)
      · (try simp only [nhs] at hC2)
        refine qm ?_
        refine hk_region fun K hK => runs_eval tab_ok ?_
        simp only [ev0, evA, evB, evP, fl, gp, tab, simprocAttr, reduceCtorEq, reduceIte]
        refine fin_run trivial (hK _ ?_) <;> clear hK <;> clear K
        refine qa (qk (qb ?_))
        simp only [Try.results3, enA, ev0, evA, evB, evP, fl, gp, tab, simprocAttr, reduceCtorEq, reduceIte]
        all_goals ((first | exact rfl | exact ⟨rfl, rfl⟩ | exact ⟨rfl, rfl, rfl⟩ | exact ⟨trivial, rfl⟩ | exact ⟨Nat.le_refl _, rfl⟩ | trivial | (simp; done)))
      · (try simp only [nhs] at hC2)
        refine qh (qa (qm ?_))
        refine hk_region fun K hK => runs_eval tab_ok ?_
        simp only [ev0, evA, evB, evP, fl, gp, tab, simprocAttr, reduceCtorEq, reduceIte, ht2, hc2]
        refine fin_stop trivial (runs_call (own_c w (by omega)) rfl rfl rfl (by simp only [dstOk, Nat.reduceLT]) (by repeat (first | exact trivial | constructor)) (runs_eval tab_ok ?_))
        simp only [ev0, evA, evB, evP, fl, gp, tab, simprocAttr, reduceCtorEq, reduceIte, ht2, hc2]
        refine fin_stop trivial (runs_call (text_c w) rfl rfl rfl (by simp only [dstOk, Nat.reduceLT]) (by repeat (first | exact trivial | constructor)) (runs_eval tab_ok ?_))
        simp only [ev0, evA, evB, evP, fl, gp, tab, simprocAttr, reduceCtorEq, reduceIte, ht2, hc2]
        refine fin_run ?_ (hK _ ?_) <;> clear hK <;> clear K
        · (first | exact trivial | omega | (simp only [In64] at *; omega) | (simp [In64] at *; omega) | (simp_all; done) | skip)
        refine qa (qm ?_)
        refine hk_region fun K hK => runs_eval tab_ok ?_
        simp only [ev0, evA, evB, evP, fl, gp, tab, simprocAttr, reduceCtorEq, reduceIte]
        refine fin_stop trivial (runs_call (parse_c s) rfl rfl rfl (by simp only [dstOk, Nat.reduceLT]) (by repeat (first | exact trivial | constructor)) (runs_eval tab_ok ?_))
        simp only [ev0, evA, evB, evP, fl, gp, tab, simprocAttr, reduceCtorEq, reduceIte]
        refine fin_run ?_ (hK _ ?_) <;> clear hK <;> clear K
        · (first | exact trivial | omega | (simp only [In64] at *; omega) | (simp [In64] at *; omega) | (simp_all; done) | skip)
        refine qa (qm ?_)
        refine hk_region fun K hK => runs_eval tab_ok ?_
        simp only [ev0, evA, evB, evP, fl, gp, tab, simprocAttr, reduceCtorEq, reduceIte, hc2]
        refine fin_stop trivial (runs_call (wordFault_c w) rfl rfl rfl (by simp only [dstOk, Nat.reduceLT]) (by repeat (first | exact trivial | constructor)) (runs_eval tab_ok ?_))
        simp only [ev0, evA, evB, evP, fl, gp, tab, simprocAttr, reduceCtorEq, reduceIte, hc2]
        refine fin_run ?_ (hK _ ?_) <;> clear hK <;> clear K
        · (first | exact trivial | omega | (simp only [In64] at *; omega) | (simp [In64] at *; omega) | (simp_all; done) | skip)
        refine qa (qm (qm ?_))
        refine hk_region fun K hK => runs_eval tab_ok ?_
        simp only [ev0, evA, evB, evP, fl, gp, tab, simprocAttr, reduceCtorEq, reduceIte]
        refine fin_run ?_ (hK _ ?_) <;> clear hK <;> clear K
        · (first | exact trivial | omega | (simp only [In64] at *; omega) | (simp [In64] at *; omega) | (simp_all; done) | skip)
        refine qa ?_
        refine hk_cond rfl (fun hC3 => ?_) (fun hC3 => ?_)
        · cases hC3
        · refine qh (qa (qm (qm ?_)))
          refine hk_region fun K hK => runs_eval tab_ok ?_
          simp only [ev0, evA, evB, evP, fl, gp, tab, simprocAttr, reduceCtorEq, reduceIte]
          refine fin_run ?_ (hK _ ?_) <;> clear hK <;> clear K
          · (first | exact trivial | omega | (simp only [In64] at *; omega) | (simp [In64] at *; omega) | (simp_all; done) | skip)
          refine qa ?_
          refine hk_cut (⟨203, [(1, .p (.str s)), (7, .p (.list (il (parseS s).1))), (8, .ptr 0 0), (9, .ptr 1 0)], [.own [.p (.int .i64 (parseS s).2.1), .p (.int .i64 (parseS s).2.2)], .own [.p (.int .i64 0), .p (.int .i64 0)]]⟩) ?_ ?_
          · refine hk_cond rfl (fun hC4 => ?_) (fun hC4 => ?_)
            · (try simp only [nhs] at hC4)
              refine qm ?_
              refine hk_region fun K hK => runs_eval tab_ok ?_
              simp only [ev0, evA, evB, evP, fl, gp, tab, simprocAttr, reduceCtorEq, reduceIte, hpt]
              refine fin_stop trivial (runs_call (parse_c (textS w).1) rfl rfl rfl (by simp only [dstOk, Nat.reduceLT]) (by repeat (first | exact trivial | constructor)) (runs_eval tab_ok ?_))
              simp only [ev0, evA, evB, evP, fl, gp, tab, simprocAttr, reduceCtorEq, reduceIte, hpt]
              refine fin_run ?_ (hK _ ?_) <;> clear hK <;> clear K
              · (first | exact trivial | omega | (simp only [In64] at *; omega) | (simp [In64] at *; omega) | (simp_all; done) | skip)
              refine qa (qm (qm ?_))
              rcases Decidable.em (w = []) with h0 | h0
              · refine hk_region fun K hK => runs_eval tab_ok ?_
                simp only [ev0, evA, evB, evP, fl, gp, tab, simprocAttr, reduceCtorEq, reduceIte, (show ((textS w).1 != ⟨#[49]⟩) = false by rw [h0] at hc ⊢; rw [textS, if_neg (by simp [hc]), if_pos rfl]; exact ba_nself _), decide_eq_true (show (w.length : Int) = 0 by rw [h0]; rfl), decide_eq_false (show ¬ (w.length : Int) > 0 by rw [h0]; simp)]
                refine fin_stop trivial (runs_call (ints_c w w (by omega)) rfl rfl rfl (by simp only [dstOk, Nat.reduceLT]) (by repeat (first | exact trivial | constructor)) (runs_eval tab_ok ?_))
                simp only [ev0, evA, evB, evP, fl, gp, tab, simprocAttr, reduceCtorEq, reduceIte, (show ((textS w).1 != ⟨#[49]⟩) = false by rw [h0] at hc ⊢; rw [textS, if_neg (by simp [hc]), if_pos rfl]; exact ba_nself _), decide_eq_true (show (w.length : Int) = 0 by rw [h0]; rfl), decide_eq_false (show ¬ (w.length : Int) > 0 by rw [h0]; simp)]
                refine fin_run ?_ (hK _ ?_) <;> clear hK <;> clear K
                · (first | exact trivial | omega | (simp only [In64] at *; omega) | (simp [In64] at *; omega) | (simp_all; done) | skip)
                refine qa ?_
                refine hk_cond rfl (fun hC5 => ?_) (fun hC5 => ?_)
                · cases hC5
                · refine qh (qa (qm ?_))
                  refine hk_region fun K hK => runs_eval tab_ok ?_
                  simp only [ev0, evA, evB, evP, fl, gp, tab, simprocAttr, reduceCtorEq, reduceIte]
                  refine fin_run trivial (hK _ ?_) <;> clear hK <;> clear K
                  refine qa (ql ?_)
                  refine hk_loop (ι := Nat) (fun i => ⟨203, [(0, .p (.list (il w))), (1, .p (.str s)), (5, .p (.str (textS w).1)), (7, .p (.list (il (parseS s).1))), (8, .ptr 0 0), (9, .ptr 1 0), (12, .p (.int .i64 i))], [.own [.p (.int .i64 (parseS s).2.1), .p (.int .i64 (parseS s).2.2)], .own [.p (.int .i64 0), .p (.int .i64 0)]]⟩) (fun i => i ≤ w.length) (fun i => w.length - i) 0 (Nat.zero_le _) [1, 2] (by simp only [leq, leA, ev0, evA, evB, evP, fl, gp, tab, simprocAttr, reduceCtorEq, reduceIte]) fun i hi => ?_
                  refine qm (qm ?_)
                  refine hk_region fun K hK => runs_eval tab_ok ?_
                  simp only [ev0, evA, evB, evP, fl, gp, tab, simprocAttr, reduceCtorEq, reduceIte]
                  refine fin_run trivial (hK _ ?_) <;> clear hK <;> clear K
                  refine qa ?_
                  refine hk_cond rfl (fun hC6 => ?_) (fun hC6 => ?_)
                  · (try simp only [nhs] at hC6)
                    have hlt : i < w.length := by omega
                    have hx := (check_okw hc).1 (w.getD i 0) (by simp [List.getD, List.getElem?_eq_getElem hlt])
                    have hta := text_at hc hlt
                    have hne : w ≠ [] := by intro e; rw [e] at hlt; simp at hlt
                    have hts := text_size hc hne
                    refine qh (qa (qm (ql (qm ?_))))
                    rcases Int.lt_or_le 0 (w.getD i 0) with hp | hp
                    · refine hk_draw mixed (by kernel_rfl) fun K hK => runs_eval tab_ok ?_
                      simp only [ev0, evA, evB, evP, fl, gp, tab, simprocAttr, reduceCtorEq, reduceIte, il_get hlt, decide_eq_true (show w.getD i 0 > 0 from hp), decide_eq_false (show ¬ w.getD i 0 < 0 by omega), (show byteAt (textS w).1 i = 96 + w.getD i 0 by rw [hta, tb, if_pos hp]), wrap_i64 (show 0 ≤ 96 + w.getD i 0 by omega) (by omega), hts]
                      refine fin_run ?_ (hK _ ?_) <;> clear hK <;> clear K
                      · (first | exact trivial | omega | (simp only [In64] at *; omega) | (simp [In64] at *; omega) | (simp_all; done) | skip)
                      refine qa ?_
                      refine hk_cond rfl (fun hC7 => ?_) (fun hC7 => ?_)
                      · cases hC7
                      · refine qh (qd (qa ?_))
                        refine hk_region fun K hK => runs_eval tab_ok ?_
                        simp only [ev0, evA, evB, evP, fl, gp, tab, simprocAttr, reduceCtorEq, reduceIte]
                        refine fin_run ?_ (hK _ ?_) <;> clear hK <;> clear K
                        · (first | exact trivial | omega | (simp only [In64] at *; omega) | (simp [In64] at *; omega) | (simp_all; done) | skip)
                        refine qa ?_
                        refine ⟨i + 1, [0, 1], by omega, by omega, ?_⟩
                        simp only [leq, leA, ev0, evA, evB, evP, fl, gp, tab, simprocAttr, reduceCtorEq, reduceIte] <;> omega
                    · refine hk_draw mixed (by kernel_rfl) fun K hK => runs_eval tab_ok ?_
                      simp only [ev0, evA, evB, evP, fl, gp, tab, simprocAttr, reduceCtorEq, reduceIte, il_get hlt, decide_eq_false (show ¬ w.getD i 0 > 0 by omega), decide_eq_true (show w.getD i 0 < 0 by omega), (show byteAt (textS w).1 i = 64 - w.getD i 0 by rw [hta, tb, if_neg (by omega)]), wrap_i64 (show 0 ≤ 64 - w.getD i 0 by omega) (by omega), hts]
                      refine fin_run ?_ (hK _ ?_) <;> clear hK <;> clear K
                      · (first | exact trivial | omega | (simp only [In64] at *; omega) | (simp [In64] at *; omega) | (simp_all; done) | skip)
                      refine qa ?_
                      refine hk_cond rfl (fun hC7 => ?_) (fun hC7 => ?_)
                      · cases hC7
                      · (try simp only [nhs] at hC7)
                        refine qh (qd (qa ?_))
                        refine hk_region fun K hK => runs_eval tab_ok ?_
                        simp only [ev0, evA, evB, evP, fl, gp, tab, simprocAttr, reduceCtorEq, reduceIte]
                        refine fin_run ?_ (hK _ ?_) <;> clear hK <;> clear K
                        · (first | exact trivial | omega | (simp only [In64] at *; omega) | (simp [In64] at *; omega) | (simp_all; done) | skip)
                        refine qa ?_
                        refine ⟨i + 1, [0, 1], by omega, by omega, ?_⟩
                        simp only [leq, leA, ev0, evA, evB, evP, fl, gp, tab, simprocAttr, reduceCtorEq, reduceIte] <;> omega
                  · (try simp only [nhs] at hC6)
                    refine qj (qc (qc (qf ?_)))
                    refine ⟨rfl, [0, 1], ?_⟩
                    simp only [leq, leA, ev0, evA, evB, evP, fl, gp, tab, simprocAttr, reduceCtorEq, reduceIte]
              · refine hk_region fun K hK => runs_eval tab_ok ?_
                simp only [ev0, evA, evB, evP, fl, gp, tab, simprocAttr, reduceCtorEq, reduceIte, decide_eq_false (show ¬ (w.length : Int) = 0 by intro e; exact h0 (List.eq_nil_of_length_eq_zero (by omega))), decide_eq_true (show (w.length : Int) > 0 by have : w.length ≠ 0 := fun e => h0 (List.eq_nil_of_length_eq_zero e); omega), text_size hc h0]
                refine fin_stop trivial (runs_call (ints_c w w (by omega)) rfl rfl rfl (by simp only [dstOk, Nat.reduceLT]) (by repeat (first | exact trivial | constructor)) (runs_eval tab_ok ?_))
                simp only [ev0, evA, evB, evP, fl, gp, tab, simprocAttr, reduceCtorEq, reduceIte, decide_eq_false (show ¬ (w.length : Int) = 0 by intro e; exact h0 (List.eq_nil_of_length_eq_zero (by omega))), decide_eq_true (show (w.length : Int) > 0 by have : w.length ≠ 0 := fun e => h0 (List.eq_nil_of_length_eq_zero e); omega), text_size hc h0]
                refine fin_run ?_ (hK _ ?_) <;> clear hK <;> clear K
                · (first | exact trivial | omega | (simp only [In64] at *; omega) | (simp [In64] at *; omega) | (simp_all; done) | skip)
                refine qa ?_
                refine hk_cond rfl (fun hC5 => ?_) (fun hC5 => ?_)
                · cases hC5
                · (try simp only [nhs] at hC5)
                  refine qh (qa (qm ?_))
                  refine hk_region fun K hK => runs_eval tab_ok ?_
                  simp only [ev0, evA, evB, evP, fl, gp, tab, simprocAttr, reduceCtorEq, reduceIte]
                  refine fin_run trivial (hK _ ?_) <;> clear hK <;> clear K
                  refine qa (ql ?_)
                  refine hk_loop (ι := Nat) (fun i => ⟨203, [(0, .p (.list (il w))), (1, .p (.str s)), (5, .p (.str (textS w).1)), (7, .p (.list (il (parseS s).1))), (8, .ptr 0 0), (9, .ptr 1 0), (12, .p (.int .i64 i))], [.own [.p (.int .i64 (parseS s).2.1), .p (.int .i64 (parseS s).2.2)], .own [.p (.int .i64 0), .p (.int .i64 0)]]⟩) (fun i => i ≤ w.length) (fun i => w.length - i) 0 (Nat.zero_le _) [1, 2] (by simp only [leq, leA, ev0, evA, evB, evP, fl, gp, tab, simprocAttr, reduceCtorEq, reduceIte]) fun i hi => ?_
                  refine qm (qm ?_)
                  refine hk_region fun K hK => runs_eval tab_ok ?_
                  simp only [ev0, evA, evB, evP, fl, gp, tab, simprocAttr, reduceCtorEq, reduceIte]
                  refine fin_run trivial (hK _ ?_) <;> clear hK <;> clear K
                  refine qa ?_
                  refine hk_cond rfl (fun hC6 => ?_) (fun hC6 => ?_)
                  · (try simp only [nhs] at hC6)
                    have hlt : i < w.length := by omega
                    have hx := (check_okw hc).1 (w.getD i 0) (by simp [List.getD, List.getElem?_eq_getElem hlt])
                    have hta := text_at hc hlt
                    have hne : w ≠ [] := by intro e; rw [e] at hlt; simp at hlt
                    have hts := text_size hc hne
                    refine qh (qa (qm (ql (qm ?_))))
                    rcases Int.lt_or_le 0 (w.getD i 0) with hp | hp
                    · refine hk_draw mixed (by kernel_rfl) fun K hK => runs_eval tab_ok ?_
                      simp only [ev0, evA, evB, evP, fl, gp, tab, simprocAttr, reduceCtorEq, reduceIte, il_get hlt, decide_eq_true (show w.getD i 0 > 0 from hp), decide_eq_false (show ¬ w.getD i 0 < 0 by omega), (show byteAt (textS w).1 i = 96 + w.getD i 0 by rw [hta, tb, if_pos hp]), wrap_i64 (show 0 ≤ 96 + w.getD i 0 by omega) (by omega), hts]
                      refine fin_run ?_ (hK _ ?_) <;> clear hK <;> clear K
                      · (first | exact trivial | omega | (simp only [In64] at *; omega) | (simp [In64] at *; omega) | (simp_all; done) | skip)
                      refine qa ?_
                      refine hk_cond rfl (fun hC7 => ?_) (fun hC7 => ?_)
                      · cases hC7
                      · refine qh (qd (qa ?_))
                        refine hk_region fun K hK => runs_eval tab_ok ?_
                        simp only [ev0, evA, evB, evP, fl, gp, tab, simprocAttr, reduceCtorEq, reduceIte]
                        refine fin_run ?_ (hK _ ?_) <;> clear hK <;> clear K
                        · (first | exact trivial | omega | (simp only [In64] at *; omega) | (simp [In64] at *; omega) | (simp_all; done) | skip)
                        refine qa ?_
                        refine ⟨i + 1, [0, 1], by omega, by omega, ?_⟩
                        simp only [leq, leA, ev0, evA, evB, evP, fl, gp, tab, simprocAttr, reduceCtorEq, reduceIte] <;> omega
                    · refine hk_draw mixed (by kernel_rfl) fun K hK => runs_eval tab_ok ?_
                      simp only [ev0, evA, evB, evP, fl, gp, tab, simprocAttr, reduceCtorEq, reduceIte, il_get hlt, decide_eq_false (show ¬ w.getD i 0 > 0 by omega), decide_eq_true (show w.getD i 0 < 0 by omega), (show byteAt (textS w).1 i = 64 - w.getD i 0 by rw [hta, tb, if_neg (by omega)]), wrap_i64 (show 0 ≤ 64 - w.getD i 0 by omega) (by omega), hts]
                      refine fin_run ?_ (hK _ ?_) <;> clear hK <;> clear K
                      · (first | exact trivial | omega | (simp only [In64] at *; omega) | (simp [In64] at *; omega) | (simp_all; done) | skip)
                      refine qa ?_
                      refine hk_cond rfl (fun hC7 => ?_) (fun hC7 => ?_)
                      · cases hC7
                      · (try simp only [nhs] at hC7)
                        refine qh (qd (qa ?_))
                        refine hk_region fun K hK => runs_eval tab_ok ?_
                        simp only [ev0, evA, evB, evP, fl, gp, tab, simprocAttr, reduceCtorEq, reduceIte]
                        refine fin_run ?_ (hK _ ?_) <;> clear hK <;> clear K
                        · (first | exact trivial | omega | (simp only [In64] at *; omega) | (simp [In64] at *; omega) | (simp_all; done) | skip)
                        refine qa ?_
                        refine ⟨i + 1, [0, 1], by omega, by omega, ?_⟩
                        simp only [leq, leA, ev0, evA, evB, evP, fl, gp, tab, simprocAttr, reduceCtorEq, reduceIte] <;> omega
                  · (try simp only [nhs] at hC6)
                    refine qj (qc (qc (qf ?_)))
                    refine ⟨rfl, [0, 1], ?_⟩
                    simp only [leq, leA, ev0, evA, evB, evP, fl, gp, tab, simprocAttr, reduceCtorEq, reduceIte]
            · cases hC4
          · refine qm ?_
            refine hk_region fun K hK => runs_eval tab_ok ?_
            simp only [ev0, evA, evB, evP, fl, gp, tab, simprocAttr, reduceCtorEq, reduceIte]
            refine fin_run ?_ (hK _ ?_) <;> clear hK <;> clear K
            · (first | exact trivial | omega | (simp only [In64] at *; omega) | (simp [In64] at *; omega) | (simp_all; done) | skip)
            refine qa (qm (qm ?_))
            refine hk_region fun K hK => runs_eval tab_ok ?_
            simp only [ev0, evA, evB, evP, fl, gp, tab, simprocAttr, reduceCtorEq, reduceIte]
            refine fin_run trivial (hK _ ?_) <;> clear hK <;> clear K
            refine qa ?_
            refine hk_cond rfl (fun hC8 => ?_) (fun hC8 => ?_)
            · (try simp only [nhs] at hC8)
              have hpu : (parseS s).2 = (2, 0) := by rw [parseS, if_pos (by omega)]
              have hp1 : (parseS s).1 = [] := parse_none (by rw [hpu]; simp)
              refine hk_region fun K hK => runs_eval tab_ok ?_
              simp only [ev0, evA, evB, evP, fl, gp, tab, simprocAttr, reduceCtorEq, reduceIte]
              refine fin_stop trivial (runs_call (f_c 2 0) rfl rfl rfl (by simp only [dstOk, Nat.reduceLT]) (by repeat (first | exact trivial | constructor)) (runs_eval tab_ok ?_))
              simp only [ev0, evA, evB, evP, fl, gp, tab, simprocAttr, reduceCtorEq, reduceIte]
              refine fin_run ?_ (hK _ ?_) <;> clear hK <;> clear K
              · (first | exact trivial | omega | (simp only [In64] at *; omega) | (simp [In64] at *; omega) | (simp_all; done) | skip)
              refine qa (qm (qm ?_))
              refine hk_region fun K hK => runs_eval tab_ok ?_
              simp only [ev0, evA, evB, evP, fl, gp, tab, simprocAttr, reduceCtorEq, reduceIte, hpu]
              refine fin_run ?_ (hK _ ?_) <;> clear hK <;> clear K
              · (first | exact trivial | omega | (simp only [In64] at *; omega) | (simp [In64] at *; omega) | (simp_all; done) | skip)
              refine qa ?_
              refine hk_cond rfl (fun hC13 => ?_) (fun hC13 => ?_)
              · cases hC13
              · (try simp only [nhs] at hC13)
                refine qh (qa (qm (qm ?_)))
                refine hk_region fun K hK => runs_eval tab_ok ?_
                simp only [ev0, evA, evB, evP, fl, gp, tab, simprocAttr, reduceCtorEq, reduceIte]
                refine fin_run ?_ (hK _ ?_) <;> clear hK <;> clear K
                · (first | exact trivial | omega | (simp only [In64] at *; omega) | (simp [In64] at *; omega) | (simp_all; done) | skip)
                refine qa ?_
                refine hk_cond rfl (fun hC14 => ?_) (fun hC14 => ?_)
                · refine qm ?_
                  refine hk_region fun K hK => runs_eval tab_ok ?_
                  simp only [ev0, evA, evB, evP, fl, gp, tab, simprocAttr, reduceCtorEq, reduceIte, hp1, il]
                  refine fin_run trivial (hK _ ?_) <;> clear hK <;> clear K
                  refine qa (qk (qb ?_))
                  simp only [Try.results3, enA, ev0, evA, evB, evP, fl, gp, tab, simprocAttr, reduceCtorEq, reduceIte]
                  all_goals ((first | exact rfl | exact ⟨rfl, rfl⟩ | exact ⟨rfl, rfl, rfl⟩ | exact ⟨trivial, rfl⟩ | exact ⟨Nat.le_refl _, rfl⟩ | trivial | (simp; done)))
                · cases hC14
            · (try simp only [nhs] at hC8)
              refine qm ?_
              refine hk_region fun K hK => runs_eval tab_ok ?_
              simp only [ev0, evA, evB, evP, fl, gp, tab, simprocAttr, reduceCtorEq, reduceIte]
              refine fin_run trivial (hK _ ?_) <;> clear hK <;> clear K
              refine qa ?_
              refine hk_cond rfl (fun hC9 => ?_) (fun hC9 => ?_)
              · (try simp only [nhs] at hC9)
                have hs1 : s ≠ ⟨#[49]⟩ := fun e => by rw [e, ba_nself] at hC9; cases hC9
                refine qm (qm ?_)
                refine hk_region fun K hK => runs_eval tab_ok ?_
                simp only [ev0, evA, evB, evP, fl, gp, tab, simprocAttr, reduceCtorEq, reduceIte]
                refine fin_run trivial (hK _ ?_) <;> clear hK <;> clear K
                refine qa (ql ?_)
                refine hk_loop (ι := Nat × (Int × Int)) (fun x => ⟨203, [(1, .p (.str s)), (7, .p (.list (il (parseS s).1))), (8, .ptr 0 0), (9, .ptr 1 0), (13, .p (.int .i64 x.1))], [.own [.p (.int .i64 (parseS s).2.1), .p (.int .i64 (parseS s).2.2)], .own [.p (.int .i64 x.2.1), .p (.int .i64 x.2.2)]]⟩) (fun x => x.1 ≤ s.size ∧ (x.2.1 = 0 → x.2 = (0, 0) ∧ bad x.1 ((byl s).drop x.1) = bad 0 (byl s)) ∧ (x.2.1 ≠ 0 → x.2 = bad 0 (byl s) ∧ 0 < s.size)) (fun x => s.size - x.1) (0, (0, 0)) ⟨Nat.zero_le _, fun _ => ⟨rfl, rfl⟩, fun h => absurd rfl h⟩ [0, 1] (by simp only [leq, leA, ev0, evA, evB, evP, fl, gp, tab, simprocAttr, reduceCtorEq, reduceIte]) fun x hx => ?_
                obtain ⟨i, u1, u2⟩ := x
                obtain ⟨hi, hz, hnz⟩ := hx
                simp only at hi hz hnz
                refine qm (qm ?_)
                by_cases g24a : (i : Int) < (s.size : Int)
                · refine hk_region fun K hK => runs_eval tab_ok ?_
                  simp only [ev0, evA, evB, evP, fl, gp, tab, simprocAttr, reduceCtorEq, reduceIte, decide_eq_true g24a]
                  refine fin_run ?_ (hK _ ?_) <;> clear hK <;> clear K
                  · (first | exact trivial | omega | (simp only [In64] at *; omega) | (simp [In64] at *; omega) | (simp_all; done) | skip)
                  refine qa ?_
                  refine hk_cond rfl (fun hC10 => ?_) (fun hC10 => ?_)
                  · (try simp only [nhs] at hC10)
                    obtain ⟨hu, hbad⟩ := hz hC10
                    obtain ⟨rfl, rfl⟩ : u1 = 0 ∧ u2 = 0 := by simpa using hu
                    have hlt : i < (byl s).length := by rw [hsz]; omega
                    have hba := byteAt_byl s (show i < s.size by omega)
                    have hdrop : (byl s).drop i = (byl s).getD i 0 :: (byl s).drop (i + 1) := by
                      rw [List.drop_eq_getElem_cons hlt]; simp [List.getD, List.getElem?_eq_getElem hlt]
                    rw [hdrop, bad] at hbad
                    refine qh (qa (qm (ql (qm ?_))))
                    by_cases g26a : 97 ≤ (byl s).getD i 0
                    · by_cases g26b : (byl s).getD i 0 ≤ 122
                      · refine hk_region fun K hK => runs_eval tab_ok ?_
                        simp only [ev0, evA, evB, evP, fl, gp, tab, simprocAttr, reduceCtorEq, reduceIte, hba, decide_eq_true g26a, decide_eq_true g26b]
                        refine fin_run ?_ (hK _ ?_) <;> clear hK <;> clear K
                        · (first | exact trivial | omega | (simp only [In64] at *; omega) | (simp [In64] at *; omega) | (simp_all; done) | skip)
                        refine qa ?_
                        refine hk_cond rfl (fun hC11 => ?_) (fun hC11 => ?_)
                        · cases hC11
                        · refine qh (qd (qa ?_))
                          refine hk_region fun K hK => runs_eval tab_ok ?_
                          simp only [ev0, evA, evB, evP, fl, gp, tab, simprocAttr, reduceCtorEq, reduceIte]
                          refine fin_run ?_ (hK _ ?_) <;> clear hK <;> clear K
                          · (first | exact trivial | omega | (simp only [In64] at *; omega) | (simp [In64] at *; omega) | (simp_all; done) | skip)
                          refine qa ?_
                          refine ⟨(i + 1, (0, 0)), [0, 1], ⟨by simp only; omega, fun _ => ⟨rfl, ?_⟩, fun h => absurd rfl h⟩, by simp only; omega, ?_⟩
                          · rw [if_pos (by omega)] at hbad; exact hbad
                          · simp only [leq, leA, ev0, evA, evB, evP, fl, gp, tab, simprocAttr, reduceCtorEq, reduceIte] <;> omega
                      · by_cases g26c : 65 ≤ (byl s).getD i 0
                        · refine hk_region fun K hK => runs_eval tab_ok ?_
                          simp only [ev0, evA, evB, evP, fl, gp, tab, simprocAttr, reduceCtorEq, reduceIte, hba, decide_eq_true g26a, decide_eq_false g26b, decide_eq_true g26c]
                          refine fin_run ?_ (hK _ ?_) <;> clear hK <;> clear K
                          · (first | exact trivial | omega | (simp only [In64] at *; omega) | (simp [In64] at *; omega) | (simp_all; done) | skip)
                          refine qa ?_
                          refine hk_cond rfl (fun hC11 => ?_) (fun hC11 => ?_)
                          · (try simp only [nhs] at hC11)
                            refine hk_region fun K hK => runs_eval tab_ok ?_
                            simp only [ev0, evA, evB, evP, fl, gp, tab, simprocAttr, reduceCtorEq, reduceIte]
                            refine fin_stop trivial (runs_call (f_c 1 i) rfl rfl rfl (by simp only [dstOk, Nat.reduceLT]) (by repeat (first | exact trivial | constructor)) (runs_eval tab_ok ?_))
                            simp only [ev0, evA, evB, evP, fl, gp, tab, simprocAttr, reduceCtorEq, reduceIte]
                            refine fin_run ?_ (hK _ ?_) <;> clear hK <;> clear K
                            · (first | exact trivial | omega | (simp only [In64] at *; omega) | (simp [In64] at *; omega) | (simp_all; done) | skip)
                            refine qd (qa ?_)
                            refine hk_region fun K hK => runs_eval tab_ok ?_
                            simp only [ev0, evA, evB, evP, fl, gp, tab, simprocAttr, reduceCtorEq, reduceIte]
                            refine fin_run ?_ (hK _ ?_) <;> clear hK <;> clear K
                            · (first | exact trivial | omega | (simp only [In64] at *; omega) | (simp [In64] at *; omega) | (simp_all; done) | skip)
                            refine qa ?_
                            refine ⟨(i + 1, (1, (i : Int))), [0, 1], ⟨by simp only; omega, fun h => by simp at h, fun _ => ⟨?_, by omega⟩⟩, by simp only; omega, ?_⟩
                            · rw [← hbad, if_neg (by omega)]
                            · simp only [leq, leA, ev0, evA, evB, evP, fl, gp, tab, simprocAttr, reduceCtorEq, reduceIte] <;> omega
                          · (try simp only [nhs] at hC11)
                            refine qh (qd (qa ?_))
                            refine hk_region fun K hK => runs_eval tab_ok ?_
                            simp only [ev0, evA, evB, evP, fl, gp, tab, simprocAttr, reduceCtorEq, reduceIte]
                            refine fin_run ?_ (hK _ ?_) <;> clear hK <;> clear K
                            · (first | exact trivial | omega | (simp only [In64] at *; omega) | (simp [In64] at *; omega) | (simp_all; done) | skip)
                            refine qa ?_
                            exfalso; omega
                        · refine hk_region fun K hK => runs_eval tab_ok ?_
                          simp only [ev0, evA, evB, evP, fl, gp, tab, simprocAttr, reduceCtorEq, reduceIte, hba, decide_eq_true g26a, decide_eq_false g26b, decide_eq_false g26c]
                          refine fin_run ?_ (hK _ ?_) <;> clear hK <;> clear K
                          · (first | exact trivial | omega | (simp only [In64] at *; omega) | (simp [In64] at *; omega) | (simp_all; done) | skip)
                          refine qa ?_
                          refine hk_cond rfl (fun hC11 => ?_) (fun hC11 => ?_)
                          · refine hk_region fun K hK => runs_eval tab_ok ?_
                            simp only [ev0, evA, evB, evP, fl, gp, tab, simprocAttr, reduceCtorEq, reduceIte]
                            refine fin_stop trivial (runs_call (f_c 1 i) rfl rfl rfl (by simp only [dstOk, Nat.reduceLT]) (by repeat (first | exact trivial | constructor)) (runs_eval tab_ok ?_))
                            simp only [ev0, evA, evB, evP, fl, gp, tab, simprocAttr, reduceCtorEq, reduceIte]
                            refine fin_run ?_ (hK _ ?_) <;> clear hK <;> clear K
                            · (first | exact trivial | omega | (simp only [In64] at *; omega) | (simp [In64] at *; omega) | (simp_all; done) | skip)
                            refine qd (qa ?_)
                            refine hk_region fun K hK => runs_eval tab_ok ?_
                            simp only [ev0, evA, evB, evP, fl, gp, tab, simprocAttr, reduceCtorEq, reduceIte]
                            refine fin_run ?_ (hK _ ?_) <;> clear hK <;> clear K
                            · (first | exact trivial | omega | (simp only [In64] at *; omega) | (simp [In64] at *; omega) | (simp_all; done) | skip)
                            refine qa ?_
                            refine ⟨(i + 1, (1, (i : Int))), [0, 1], ⟨by simp only; omega, fun h => by simp at h, fun _ => ⟨?_, by omega⟩⟩, by simp only; omega, ?_⟩
                            · rw [← hbad, if_neg (by omega)]
                            · simp only [leq, leA, ev0, evA, evB, evP, fl, gp, tab, simprocAttr, reduceCtorEq, reduceIte] <;> omega
                          · cases hC11
                    · by_cases g26c : 65 ≤ (byl s).getD i 0
                      · refine hk_region fun K hK => runs_eval tab_ok ?_
                        simp only [ev0, evA, evB, evP, fl, gp, tab, simprocAttr, reduceCtorEq, reduceIte, hba, decide_eq_false g26a, decide_eq_true g26c]
                        refine fin_run ?_ (hK _ ?_) <;> clear hK <;> clear K
                        · (first | exact trivial | omega | (simp only [In64] at *; omega) | (simp [In64] at *; omega) | (simp_all; done) | skip)
                        refine qa ?_
                        refine hk_cond rfl (fun hC11 => ?_) (fun hC11 => ?_)
                        · (try simp only [nhs] at hC11)
                          refine hk_region fun K hK => runs_eval tab_ok ?_
                          simp only [ev0, evA, evB, evP, fl, gp, tab, simprocAttr, reduceCtorEq, reduceIte]
                          refine fin_stop trivial (runs_call (f_c 1 i) rfl rfl rfl (by simp only [dstOk, Nat.reduceLT]) (by repeat (first | exact trivial | constructor)) (runs_eval tab_ok ?_))
                          simp only [ev0, evA, evB, evP, fl, gp, tab, simprocAttr, reduceCtorEq, reduceIte]
                          refine fin_run ?_ (hK _ ?_) <;> clear hK <;> clear K
                          · (first | exact trivial | omega | (simp only [In64] at *; omega) | (simp [In64] at *; omega) | (simp_all; done) | skip)
                          refine qd (qa ?_)
                          refine hk_region fun K hK => runs_eval tab_ok ?_
                          simp only [ev0, evA, evB, evP, fl, gp, tab, simprocAttr, reduceCtorEq, reduceIte]
                          refine fin_run ?_ (hK _ ?_) <;> clear hK <;> clear K
                          · (first | exact trivial | omega | (simp only [In64] at *; omega) | (simp [In64] at *; omega) | (simp_all; done) | skip)
                          refine qa ?_
                          refine ⟨(i + 1, (1, (i : Int))), [0, 1], ⟨by simp only; omega, fun h => by simp at h, fun _ => ⟨?_, by omega⟩⟩, by simp only; omega, ?_⟩
                          · rw [← hbad, if_neg (by omega)]
                          · simp only [leq, leA, ev0, evA, evB, evP, fl, gp, tab, simprocAttr, reduceCtorEq, reduceIte] <;> omega
                        · (try simp only [nhs] at hC11)
                          refine qh (qd (qa ?_))
                          refine hk_region fun K hK => runs_eval tab_ok ?_
                          simp only [ev0, evA, evB, evP, fl, gp, tab, simprocAttr, reduceCtorEq, reduceIte]
                          refine fin_run ?_ (hK _ ?_) <;> clear hK <;> clear K
                          · (first | exact trivial | omega | (simp only [In64] at *; omega) | (simp [In64] at *; omega) | (simp_all; done) | skip)
                          refine qa ?_
                          refine ⟨(i + 1, (0, 0)), [0, 1], ⟨by simp only; omega, fun _ => ⟨rfl, ?_⟩, fun h => absurd rfl h⟩, by simp only; omega, ?_⟩
                          · rw [if_pos (by omega)] at hbad; exact hbad
                          · simp only [leq, leA, ev0, evA, evB, evP, fl, gp, tab, simprocAttr, reduceCtorEq, reduceIte] <;> omega
                      · refine hk_region fun K hK => runs_eval tab_ok ?_
                        simp only [ev0, evA, evB, evP, fl, gp, tab, simprocAttr, reduceCtorEq, reduceIte, hba, decide_eq_false g26a, decide_eq_false g26c]
                        refine fin_run ?_ (hK _ ?_) <;> clear hK <;> clear K
                        · (first | exact trivial | omega | (simp only [In64] at *; omega) | (simp [In64] at *; omega) | (simp_all; done) | skip)
                        refine qa ?_
                        refine hk_cond rfl (fun hC11 => ?_) (fun hC11 => ?_)
                        · refine hk_region fun K hK => runs_eval tab_ok ?_
                          simp only [ev0, evA, evB, evP, fl, gp, tab, simprocAttr, reduceCtorEq, reduceIte]
                          refine fin_stop trivial (runs_call (f_c 1 i) rfl rfl rfl (by simp only [dstOk, Nat.reduceLT]) (by repeat (first | exact trivial | constructor)) (runs_eval tab_ok ?_))
                          simp only [ev0, evA, evB, evP, fl, gp, tab, simprocAttr, reduceCtorEq, reduceIte]
                          refine fin_run ?_ (hK _ ?_) <;> clear hK <;> clear K
                          · (first | exact trivial | omega | (simp only [In64] at *; omega) | (simp [In64] at *; omega) | (simp_all; done) | skip)
                          refine qd (qa ?_)
                          refine hk_region fun K hK => runs_eval tab_ok ?_
                          simp only [ev0, evA, evB, evP, fl, gp, tab, simprocAttr, reduceCtorEq, reduceIte]
                          refine fin_run ?_ (hK _ ?_) <;> clear hK <;> clear K
                          · (first | exact trivial | omega | (simp only [In64] at *; omega) | (simp [In64] at *; omega) | (simp_all; done) | skip)
                          refine qa ?_
                          refine ⟨(i + 1, (1, (i : Int))), [0, 1], ⟨by simp only; omega, fun h => by simp at h, fun _ => ⟨?_, by omega⟩⟩, by simp only; omega, ?_⟩
                          · rw [← hbad, if_neg (by omega)]
                          · simp only [leq, leA, ev0, evA, evB, evP, fl, gp, tab, simprocAttr, reduceCtorEq, reduceIte] <;> omega
                        · cases hC11
                  · (try simp only [nhs] at hC10)
                    refine qj (qc (qc (qf (qa (qm ?_)))))
                    refine hk_region fun K hK => runs_eval tab_ok ?_
                    simp only [ev0, evA, evB, evP, fl, gp, tab, simprocAttr, reduceCtorEq, reduceIte]
                    refine fin_run trivial (hK _ ?_) <;> clear hK <;> clear K
                    refine qa ?_
                    refine hk_cond rfl (fun hC12 => ?_) (fun hC12 => ?_)
                    · (try simp only [nhs] at hC12)
                      have e := (ba_beq _ _).1 hC12
                      have e2 : s.size = 0 := by rw [e]; rfl
                      exfalso; omega
                    · (try simp only [nhs] at hC12)
                      obtain ⟨hu, hpos⟩ := hnz hC10
                      have hne : byl s ≠ [] := by intro e; rw [e] at hsz; simp at hsz; omega
                      have hpu : (parseS s).2 = (u1, u2) := by rw [hu]; exact parse_2 hC8 hs1 hne
                      have hp1 : (parseS s).1 = [] := parse_none (by rw [hpu]; exact hC10)
                      refine qh (qa (qm (qm ?_)))
                      refine hk_region fun K hK => runs_eval tab_ok ?_
                      simp only [ev0, evA, evB, evP, fl, gp, tab, simprocAttr, reduceCtorEq, reduceIte, hpu]
                      refine fin_run ?_ (hK _ ?_) <;> clear hK <;> clear K
                      · (first | exact trivial | omega | (simp only [In64] at *; omega) | (simp [In64] at *; omega) | (simp_all; done) | skip)
                      refine qa ?_
                      refine hk_cond rfl (fun hC13 => ?_) (fun hC13 => ?_)
                      · cases hC13
                      · (try simp only [nhs] at hC13)
                        refine qh (qa (qm (qm ?_)))
                        refine hk_region fun K hK => runs_eval tab_ok ?_
                        simp only [ev0, evA, evB, evP, fl, gp, tab, simprocAttr, reduceCtorEq, reduceIte, decide_eq_false hC10]
                        refine fin_run ?_ (hK _ ?_) <;> clear hK <;> clear K
                        · (first | exact trivial | omega | (simp only [In64] at *; omega) | (simp [In64] at *; omega) | (simp_all; done) | skip)
                        refine qa ?_
                        refine hk_cond rfl (fun hC14 => ?_) (fun hC14 => ?_)
                        · refine qm ?_
                          refine hk_region fun K hK => runs_eval tab_ok ?_
                          simp only [ev0, evA, evB, evP, fl, gp, tab, simprocAttr, reduceCtorEq, reduceIte, hp1, il]
                          refine fin_run trivial (hK _ ?_) <;> clear hK <;> clear K
                          refine qa (qk (qb ?_))
                          simp only [Try.results3, enA, ev0, evA, evB, evP, fl, gp, tab, simprocAttr, reduceCtorEq, reduceIte]
                          all_goals ((first | exact rfl | exact ⟨rfl, rfl⟩ | exact ⟨rfl, rfl, rfl⟩ | exact ⟨trivial, rfl⟩ | exact ⟨Nat.le_refl _, rfl⟩ | trivial | (simp; done)))
                        · cases hC14
                · refine hk_region fun K hK => runs_eval tab_ok ?_
                  simp only [ev0, evA, evB, evP, fl, gp, tab, simprocAttr, reduceCtorEq, reduceIte, decide_eq_false g24a]
                  refine fin_run trivial (hK _ ?_) <;> clear hK <;> clear K
                  refine qa ?_
                  refine hk_cond rfl (fun hC10 => ?_) (fun hC10 => ?_)
                  · cases hC10
                  · refine qj (qc (qc (qf (qa (qm ?_)))))
                    refine hk_region fun K hK => runs_eval tab_ok ?_
                    simp only [ev0, evA, evB, evP, fl, gp, tab, simprocAttr, reduceCtorEq, reduceIte]
                    refine fin_run trivial (hK _ ?_) <;> clear hK <;> clear K
                    refine qa ?_
                    refine hk_cond rfl (fun hC12 => ?_) (fun hC12 => ?_)
                    · (try simp only [nhs] at hC12)
                      have e := (ba_beq _ _).1 hC12
                      have hpu : (parseS s).2 = (1, 0) := by
                        rw [parseS, if_neg hC8, if_neg hs1, if_pos (by rw [e]; rfl)]
                      have hp1 : (parseS s).1 = [] := parse_none (by rw [hpu]; simp)
                      refine hk_region fun K hK => runs_eval tab_ok ?_
                      simp only [ev0, evA, evB, evP, fl, gp, tab, simprocAttr, reduceCtorEq, reduceIte]
                      refine fin_stop trivial (runs_call (f_c 1 0) rfl rfl rfl (by simp only [dstOk, Nat.reduceLT]) (by repeat (first | exact trivial | constructor)) (runs_eval tab_ok ?_))
                      simp only [ev0, evA, evB, evP, fl, gp, tab, simprocAttr, reduceCtorEq, reduceIte]
                      refine fin_run ?_ (hK _ ?_) <;> clear hK <;> clear K
                      · (first | exact trivial | omega | (simp only [In64] at *; omega) | (simp [In64] at *; omega) | (simp_all; done) | skip)
                      refine qa (qm (qm ?_))
                      refine hk_region fun K hK => runs_eval tab_ok ?_
                      simp only [ev0, evA, evB, evP, fl, gp, tab, simprocAttr, reduceCtorEq, reduceIte, hpu]
                      refine fin_run ?_ (hK _ ?_) <;> clear hK <;> clear K
                      · (first | exact trivial | omega | (simp only [In64] at *; omega) | (simp [In64] at *; omega) | (simp_all; done) | skip)
                      refine qa ?_
                      refine hk_cond rfl (fun hC13 => ?_) (fun hC13 => ?_)
                      · cases hC13
                      · (try simp only [nhs] at hC13)
                        refine qh (qa (qm (qm ?_)))
                        refine hk_region fun K hK => runs_eval tab_ok ?_
                        simp only [ev0, evA, evB, evP, fl, gp, tab, simprocAttr, reduceCtorEq, reduceIte]
                        refine fin_run ?_ (hK _ ?_) <;> clear hK <;> clear K
                        · (first | exact trivial | omega | (simp only [In64] at *; omega) | (simp [In64] at *; omega) | (simp_all; done) | skip)
                        refine qa ?_
                        refine hk_cond rfl (fun hC14 => ?_) (fun hC14 => ?_)
                        · refine qm ?_
                          refine hk_region fun K hK => runs_eval tab_ok ?_
                          simp only [ev0, evA, evB, evP, fl, gp, tab, simprocAttr, reduceCtorEq, reduceIte, hp1, il]
                          refine fin_run trivial (hK _ ?_) <;> clear hK <;> clear K
                          refine qa (qk (qb ?_))
                          simp only [Try.results3, enA, ev0, evA, evB, evP, fl, gp, tab, simprocAttr, reduceCtorEq, reduceIte]
                          all_goals ((first | exact rfl | exact ⟨rfl, rfl⟩ | exact ⟨rfl, rfl, rfl⟩ | exact ⟨trivial, rfl⟩ | exact ⟨Nat.le_refl _, rfl⟩ | trivial | (simp; done)))
                        · cases hC14
                    · (try simp only [nhs] at hC12)
                      have hne : byl s ≠ [] := by
                        intro e
                        have h0 : s.size = 0 := by rw [← hsz, e]; rfl
                        have : s = ⟨#[]⟩ := by
                          rw [← str_byl s, e]; rfl
                        rw [this, ba_self] at hC12; cases hC12
                      have hin : i = s.size := by omega
                      have hpu : (parseS s).2 = (u1, u2) := by
                        rw [parse_2 hC8 hs1 hne]
                        by_cases h0 : u1 = 0
                        · obtain ⟨e1, e2⟩ := hz h0
                          rw [e1, ← e2, List.drop_of_length_le (by omega), bad]
                        · exact (hnz h0).1.symm
                      refine qh (qa (qm (qm ?_)))
                      refine hk_region fun K hK => runs_eval tab_ok ?_
                      simp only [ev0, evA, evB, evP, fl, gp, tab, simprocAttr, reduceCtorEq, reduceIte, hpu]
                      refine fin_run ?_ (hK _ ?_) <;> clear hK <;> clear K
                      · (first | exact trivial | omega | (simp only [In64] at *; omega) | (simp [In64] at *; omega) | (simp_all; done) | skip)
                      refine qa ?_
                      refine hk_cond rfl (fun hC13 => ?_) (fun hC13 => ?_)
                      · cases hC13
                      · (try simp only [nhs] at hC13)
                        refine qh (qa (qm (qm ?_)))
                        by_cases g32a : u1 = 0
                        · have htp : textS (parseS s).1 = (s, (0, 0)) := text_parse hs1 (by rw [hpu]; exact g32a)
                          refine hk_region fun K hK => runs_eval tab_ok ?_
                          simp only [ev0, evA, evB, evP, fl, gp, tab, simprocAttr, reduceCtorEq, reduceIte, decide_eq_true g32a]
                          refine fin_run ?_ (hK _ ?_) <;> clear hK <;> clear K
                          · (first | exact trivial | omega | (simp only [In64] at *; omega) | (simp [In64] at *; omega) | (simp_all; done) | skip)
                          refine qa ?_
                          refine hk_cond rfl (fun hC14 => ?_) (fun hC14 => ?_)
                          · (try simp only [nhs] at hC14)
                            rw [ba_ne hs1] at hC14; cases hC14
                          · (try simp only [nhs] at hC14)
                            refine qh (qa (qm ?_))
                            refine hk_region fun K hK => runs_eval tab_ok ?_
                            simp only [ev0, evA, evB, evP, fl, gp, tab, simprocAttr, reduceCtorEq, reduceIte, htp]
                            refine fin_stop trivial (runs_call (text_c (parseS s).1) rfl rfl rfl (by simp only [dstOk, Nat.reduceLT]) (by repeat (first | exact trivial | constructor)) (runs_eval tab_ok ?_))
                            simp only [ev0, evA, evB, evP, fl, gp, tab, simprocAttr, reduceCtorEq, reduceIte, htp]
                            refine fin_run ?_ (hK _ ?_) <;> clear hK <;> clear K
                            · (first | exact trivial | omega | (simp only [In64] at *; omega) | (simp [In64] at *; omega) | (simp_all; done) | skip)
                            refine qa (qm ?_)
                            refine hk_region fun K hK => runs_eval tab_ok ?_
                            simp only [ev0, evA, evB, evP, fl, gp, tab, simprocAttr, reduceCtorEq, reduceIte, ba_self]
                            refine fin_run ?_ (hK _ ?_) <;> clear hK <;> clear K
                            · (first | exact trivial | omega | (simp only [In64] at *; omega) | (simp [In64] at *; omega) | (simp_all; done) | skip)
                            refine qa (qk ?_)
                            simp only [Try.results3, enA, ev0, evA, evB, evP, fl, gp, tab, simprocAttr, reduceCtorEq, reduceIte]
                            all_goals ((first | exact rfl | exact ⟨rfl, rfl⟩ | exact ⟨rfl, rfl, rfl⟩ | exact ⟨trivial, rfl⟩ | exact ⟨Nat.le_refl _, rfl⟩ | trivial | (simp; done)))
                        · have hp1 : (parseS s).1 = [] := parse_none (by rw [hpu]; exact g32a)
                          refine hk_region fun K hK => runs_eval tab_ok ?_
                          simp only [ev0, evA, evB, evP, fl, gp, tab, simprocAttr, reduceCtorEq, reduceIte, decide_eq_false g32a]
                          refine fin_run ?_ (hK _ ?_) <;> clear hK <;> clear K
                          · (first | exact trivial | omega | (simp only [In64] at *; omega) | (simp [In64] at *; omega) | (simp_all; done) | skip)
                          refine qa ?_
                          refine hk_cond rfl (fun hC14 => ?_) (fun hC14 => ?_)
                          · refine qm ?_
                            refine hk_region fun K hK => runs_eval tab_ok ?_
                            simp only [ev0, evA, evB, evP, fl, gp, tab, simprocAttr, reduceCtorEq, reduceIte, hp1, il]
                            refine fin_run trivial (hK _ ?_) <;> clear hK <;> clear K
                            refine qa (qk (qb ?_))
                            simp only [Try.results3, enA, ev0, evA, evB, evP, fl, gp, tab, simprocAttr, reduceCtorEq, reduceIte]
                            all_goals ((first | exact rfl | exact ⟨rfl, rfl⟩ | exact ⟨rfl, rfl, rfl⟩ | exact ⟨trivial, rfl⟩ | exact ⟨Nat.le_refl _, rfl⟩ | trivial | (simp; done)))
                          · cases hC14
              · (try simp only [nhs] at hC9)
                have hs1 : s = ⟨#[49]⟩ := by
                  rcases Decidable.em (s = ⟨#[49]⟩) with h | h
                  · exact h
                  · rw [ba_bne h] at hC9; cases hC9
                have hp : parseS s = ([], (0, 0)) := by rw [parseS, if_neg hC8, if_pos hs1]
                have hpu : (parseS s).2 = (0, 0) := by rw [hp]
                have hp1 : (parseS s).1 = [] := by rw [hp]
                refine qh (qa (qm (qm ?_)))
                refine hk_region fun K hK => runs_eval tab_ok ?_
                simp only [ev0, evA, evB, evP, fl, gp, tab, simprocAttr, reduceCtorEq, reduceIte, hpu]
                refine fin_run ?_ (hK _ ?_) <;> clear hK <;> clear K
                · (first | exact trivial | omega | (simp only [In64] at *; omega) | (simp [In64] at *; omega) | (simp_all; done) | skip)
                refine qa ?_
                refine hk_cond rfl (fun hC13 => ?_) (fun hC13 => ?_)
                · cases hC13
                · (try simp only [nhs] at hC13)
                  refine qh (qa (qm (qm ?_)))
                  refine hk_region fun K hK => runs_eval tab_ok ?_
                  simp only [ev0, evA, evB, evP, fl, gp, tab, simprocAttr, reduceCtorEq, reduceIte, (show (s == ⟨#[49]⟩) = true from (ba_beq _ _).2 hs1)]
                  refine fin_run ?_ (hK _ ?_) <;> clear hK <;> clear K
                  · (first | exact trivial | omega | (simp only [In64] at *; omega) | (simp [In64] at *; omega) | (simp_all; done) | skip)
                  refine qa ?_
                  refine hk_cond rfl (fun hC14 => ?_) (fun hC14 => ?_)
                  · (try simp only [nhs] at hC14)
                    refine qm ?_
                    refine hk_region fun K hK => runs_eval tab_ok ?_
                    simp only [ev0, evA, evB, evP, fl, gp, tab, simprocAttr, reduceCtorEq, reduceIte, hp1, il]
                    refine fin_run trivial (hK _ ?_) <;> clear hK <;> clear K
                    refine qa (qk (qb ?_))
                    simp only [Try.results3, enA, ev0, evA, evB, evP, fl, gp, tab, simprocAttr, reduceCtorEq, reduceIte]
                    all_goals ((first | exact rfl | exact ⟨rfl, rfl⟩ | exact ⟨rfl, rfl, rfl⟩ | exact ⟨trivial, rfl⟩ | exact ⟨Nat.le_refl _, rfl⟩ | trivial | (simp; done)))
                  · (try simp only [nhs] at hC14)
                    cases hC14

set_option maxHeartbeats 4000000 in
/-- Where the word is none. -/
theorem texts2_c (w : List Int) (s : ByteArray) (hc : ¬ (check w).1 = 0) : FnC Try.prog 3 [.list (il w), .str s] (.bool true) := by
  have hsz := byl_length s
  have ht2 := textS_2 w
  have ht1 : (textS w).1 = ⟨#[]⟩ := by rw [textS, if_pos hc]
  refine fnc_of tab_ok Try.func3 rfl (by kernel_rfl) (by rw [Try.ntmps3]; exact Nat.le_add_left 2 _) ?_; rw [Try.ntmps3]
  refine qm ?_
  refine hk_region fun K hK => runs_eval tab_ok ?_
  simp only [ev0, evA, evB, evP, fl, gp, tab, simprocAttr, reduceCtorEq, reduceIte]
  refine fin_run trivial (hK _ ?_) <;> clear hK <;> clear K
  refine qa (qm (qm ?_))
  refine hk_region fun K hK => runs_eval tab_ok ?_
  simp only [ev0, evA, evB, evP, fl, gp, tab, simprocAttr, reduceCtorEq, reduceIte]
  refine fin_stop trivial (runs_call (begun_c) rfl rfl rfl (by simp only [dstOk, Nat.reduceLT]) (by repeat (first | exact trivial | constructor)) (runs_eval tab_ok ?_))
  simp only [ev0, evA, evB, evP, fl, gp, tab, simprocAttr, reduceCtorEq, reduceIte]
  refine fin_run trivial (hK _ ?_) <;> clear hK <;> clear K
  refine qa ?_
  refine hk_cond rfl (fun hC1 => ?_) (fun hC1 => ?_)
  · cases hC1
  · (try simp only [nhs] at hC1)
    refine qh (qa (qm (qm ?_)))
    by_cases g3a : (w.length : Int) > 5000
    · refine hk_region fun K hK => runs_eval tab_ok ?_
      simp only [ev0, evA, evB, evP, fl, gp, tab, simprocAttr, reduceCtorEq, reduceIte, decide_eq_true g3a]
      refine fin_run trivial (hK _ ?_) <;> clear hK <;> clear K
      refine qa ?_
      refine hk_cond rfl (fun hC2 => ?_) (fun hC2 => ?_)
      · refine qm ?_
        refine hk_region fun K hK => runs_eval tab_ok ?_
        simp only [ev0, evA, evB, evP, fl, gp, tab, simprocAttr, reduceCtorEq, reduceIte]
        refine fin_run trivial (hK _ ?_) <;> clear hK <;> clear K
        refine qa (qk (qb ?_))
        simp only [Try.results3, enA, ev0, evA, evB, evP, fl, gp, tab, simprocAttr, reduceCtorEq, reduceIte]
        all_goals ((first | exact rfl | exact ⟨rfl, rfl⟩ | exact ⟨rfl, rfl, rfl⟩ | exact ⟨trivial, rfl⟩ | exact ⟨Nat.le_refl _, rfl⟩ | trivial | (simp; done)))
      · cases hC2
    · refine hk_region fun K hK => runs_eval tab_ok ?_
      simp only [ev0, evA, evB, evP, fl, gp, tab, simprocAttr, reduceCtorEq, reduceIte, decide_eq_false g3a]
      refine fin_run trivial (hK _ ?_) <;> clear hK <;> clear K
      refine qa ?_
      refine hk_cond rfl (fun hC2 => ?_) (fun hC2 => ?_)
      · (try simp only [nhs] at hC2)
        refine qm ?_
        refine hk_region fun K hK => runs_eval tab_ok ?_
        simp only [ev0, evA, evB, evP, fl, gp, tab, simprocAttr, reduceCtorEq, reduceIte]
        refine fin_run trivial (hK _ ?_) <;> clear hK <;> clear K
        refine qa (qk (qb ?_))
        simp only [Try.results3, enA, ev0, evA, evB, evP, fl, gp, tab, simprocAttr, reduceCtorEq, reduceIte]
        all_goals ((first | exact rfl | exact ⟨rfl, rfl⟩ | exact ⟨rfl, rfl, rfl⟩ | exact ⟨trivial, rfl⟩ | exact ⟨Nat.le_refl _, rfl⟩ | trivial | (simp; done)))
      · (try simp only [nhs] at hC2)
        refine qh (qa (qm ?_))
        refine hk_region fun K hK => runs_eval tab_ok ?_
        simp only [ev0, evA, evB, evP, fl, gp, tab, simprocAttr, reduceCtorEq, reduceIte, ht1, ht2]
        refine fin_stop trivial (runs_call (own_c w (by omega)) rfl rfl rfl (by simp only [dstOk, Nat.reduceLT]) (by repeat (first | exact trivial | constructor)) (runs_eval tab_ok ?_))
        simp only [ev0, evA, evB, evP, fl, gp, tab, simprocAttr, reduceCtorEq, reduceIte, ht1, ht2]
        refine fin_stop trivial (runs_call (text_c w) rfl rfl rfl (by simp only [dstOk, Nat.reduceLT]) (by repeat (first | exact trivial | constructor)) (runs_eval tab_ok ?_))
        simp only [ev0, evA, evB, evP, fl, gp, tab, simprocAttr, reduceCtorEq, reduceIte, ht1, ht2]
        refine fin_run ?_ (hK _ ?_) <;> clear hK <;> clear K
        · (first | exact trivial | omega | (simp only [In64] at *; omega) | (simp [In64] at *; omega) | (simp_all; done) | skip)
        refine qa (qm ?_)
        refine hk_region fun K hK => runs_eval tab_ok ?_
        simp only [ev0, evA, evB, evP, fl, gp, tab, simprocAttr, reduceCtorEq, reduceIte]
        refine fin_stop trivial (runs_call (parse_c s) rfl rfl rfl (by simp only [dstOk, Nat.reduceLT]) (by repeat (first | exact trivial | constructor)) (runs_eval tab_ok ?_))
        simp only [ev0, evA, evB, evP, fl, gp, tab, simprocAttr, reduceCtorEq, reduceIte]
        refine fin_run ?_ (hK _ ?_) <;> clear hK <;> clear K
        · (first | exact trivial | omega | (simp only [In64] at *; omega) | (simp [In64] at *; omega) | (simp_all; done) | skip)
        refine qa (qm ?_)
        refine hk_region fun K hK => runs_eval tab_ok ?_
        simp only [ev0, evA, evB, evP, fl, gp, tab, simprocAttr, reduceCtorEq, reduceIte]
        refine fin_stop trivial (runs_call (wordFault_c w) rfl rfl rfl (by simp only [dstOk, Nat.reduceLT]) (by repeat (first | exact trivial | constructor)) (runs_eval tab_ok ?_))
        simp only [ev0, evA, evB, evP, fl, gp, tab, simprocAttr, reduceCtorEq, reduceIte]
        refine fin_run ?_ (hK _ ?_) <;> clear hK <;> clear K
        · (first | exact trivial | omega | (simp only [In64] at *; omega) | (simp [In64] at *; omega) | (simp_all; done) | skip)
        refine qa (qm (qm ?_))
        refine hk_region fun K hK => runs_eval tab_ok ?_
        simp only [ev0, evA, evB, evP, fl, gp, tab, simprocAttr, reduceCtorEq, reduceIte, decide_eq_false hc, ba_nself]
        refine fin_run ?_ (hK _ ?_) <;> clear hK <;> clear K
        · (first | exact trivial | omega | (simp only [In64] at *; omega) | (simp [In64] at *; omega) | (simp_all; done) | skip)
        refine qa ?_
        refine hk_cond rfl (fun hC3 => ?_) (fun hC3 => ?_)
        · (try simp only [nhs] at hC3)
          refine qm ?_
          refine hk_region fun K hK => runs_eval tab_ok ?_
          simp only [ev0, evA, evB, evP, fl, gp, tab, simprocAttr, reduceCtorEq, reduceIte]
          refine fin_run trivial (hK _ ?_) <;> clear hK <;> clear K
          refine qa (qk (qb ?_))
          simp only [Try.results3, enA, ev0, evA, evB, evP, fl, gp, tab, simprocAttr, reduceCtorEq, reduceIte]
          all_goals ((first | exact rfl | exact ⟨rfl, rfl⟩ | exact ⟨rfl, rfl, rfl⟩ | exact ⟨trivial, rfl⟩ | exact ⟨Nat.le_refl _, rfl⟩ | trivial | (simp; done)))
        · (try simp only [nhs] at hC3)
          refine qh (qa (qm (qm ?_)))
          refine hk_region fun K hK => runs_eval tab_ok ?_
          simp only [ev0, evA, evB, evP, fl, gp, tab, simprocAttr, reduceCtorEq, reduceIte, decide_eq_false hc]
          refine fin_run ?_ (hK _ ?_) <;> clear hK <;> clear K
          · (first | exact trivial | omega | (simp only [In64] at *; omega) | (simp [In64] at *; omega) | (simp_all; done) | skip)
          refine qa ?_
          refine hk_cut (⟨203, [(1, .p (.str s)), (7, .p (.list (il (parseS s).1))), (8, .ptr 0 0), (9, .ptr 1 0)], [.own [.p (.int .i64 (parseS s).2.1), .p (.int .i64 (parseS s).2.2)], .own [.p (.int .i64 (check w).1), .p (.int .i64 (check w).2)]]⟩) ?_ ?_
          · refine hk_cond rfl (fun hC4 => ?_) (fun hC4 => ?_)
            · cases hC4
            · (try simp only [nhs] at hC4)
              refine qh ?_
              refine ⟨rfl, [1, 2], ?_⟩
              simp only [leq, leA, ev0, evA, evB, evP, fl, gp, tab, simprocAttr, reduceCtorEq, reduceIte]
          · refine qm ?_
            refine hk_region fun K hK => runs_eval tab_ok ?_
            simp only [ev0, evA, evB, evP, fl, gp, tab, simprocAttr, reduceCtorEq, reduceIte]
            refine fin_run ?_ (hK _ ?_) <;> clear hK <;> clear K
            · (first | exact trivial | omega | (simp only [In64] at *; omega) | (simp [In64] at *; omega) | (simp_all; done) | skip)
            refine qa (qm (qm ?_))
            refine hk_region fun K hK => runs_eval tab_ok ?_
            simp only [ev0, evA, evB, evP, fl, gp, tab, simprocAttr, reduceCtorEq, reduceIte]
            refine fin_run trivial (hK _ ?_) <;> clear hK <;> clear K
            refine qa ?_
            refine hk_cond rfl (fun hC8 => ?_) (fun hC8 => ?_)
            · (try simp only [nhs] at hC8)
              have hpu : (parseS s).2 = (2, 0) := by rw [parseS, if_pos (by omega)]
              have hp1 : (parseS s).1 = [] := parse_none (by rw [hpu]; simp)
              refine hk_region fun K hK => runs_eval tab_ok ?_
              simp only [ev0, evA, evB, evP, fl, gp, tab, simprocAttr, reduceCtorEq, reduceIte]
              refine fin_stop trivial (runs_call (f_c 2 0) rfl rfl rfl (by simp only [dstOk, Nat.reduceLT]) (by repeat (first | exact trivial | constructor)) (runs_eval tab_ok ?_))
              simp only [ev0, evA, evB, evP, fl, gp, tab, simprocAttr, reduceCtorEq, reduceIte]
              refine fin_run ?_ (hK _ ?_) <;> clear hK <;> clear K
              · (first | exact trivial | omega | (simp only [In64] at *; omega) | (simp [In64] at *; omega) | (simp_all; done) | skip)
              refine qa (qm (qm ?_))
              refine hk_region fun K hK => runs_eval tab_ok ?_
              simp only [ev0, evA, evB, evP, fl, gp, tab, simprocAttr, reduceCtorEq, reduceIte, hpu]
              refine fin_run ?_ (hK _ ?_) <;> clear hK <;> clear K
              · (first | exact trivial | omega | (simp only [In64] at *; omega) | (simp [In64] at *; omega) | (simp_all; done) | skip)
              refine qa ?_
              refine hk_cond rfl (fun hC13 => ?_) (fun hC13 => ?_)
              · cases hC13
              · (try simp only [nhs] at hC13)
                refine qh (qa (qm (qm ?_)))
                refine hk_region fun K hK => runs_eval tab_ok ?_
                simp only [ev0, evA, evB, evP, fl, gp, tab, simprocAttr, reduceCtorEq, reduceIte]
                refine fin_run ?_ (hK _ ?_) <;> clear hK <;> clear K
                · (first | exact trivial | omega | (simp only [In64] at *; omega) | (simp [In64] at *; omega) | (simp_all; done) | skip)
                refine qa ?_
                refine hk_cond rfl (fun hC14 => ?_) (fun hC14 => ?_)
                · refine qm ?_
                  refine hk_region fun K hK => runs_eval tab_ok ?_
                  simp only [ev0, evA, evB, evP, fl, gp, tab, simprocAttr, reduceCtorEq, reduceIte, hp1, il]
                  refine fin_run trivial (hK _ ?_) <;> clear hK <;> clear K
                  refine qa (qk (qb ?_))
                  simp only [Try.results3, enA, ev0, evA, evB, evP, fl, gp, tab, simprocAttr, reduceCtorEq, reduceIte]
                  all_goals ((first | exact rfl | exact ⟨rfl, rfl⟩ | exact ⟨rfl, rfl, rfl⟩ | exact ⟨trivial, rfl⟩ | exact ⟨Nat.le_refl _, rfl⟩ | trivial | (simp; done)))
                · cases hC14
            · (try simp only [nhs] at hC8)
              refine qm ?_
              refine hk_region fun K hK => runs_eval tab_ok ?_
              simp only [ev0, evA, evB, evP, fl, gp, tab, simprocAttr, reduceCtorEq, reduceIte]
              refine fin_run trivial (hK _ ?_) <;> clear hK <;> clear K
              refine qa ?_
              refine hk_cond rfl (fun hC9 => ?_) (fun hC9 => ?_)
              · (try simp only [nhs] at hC9)
                have hs1 : s ≠ ⟨#[49]⟩ := fun e => by rw [e, ba_nself] at hC9; cases hC9
                refine qm (qm ?_)
                refine hk_region fun K hK => runs_eval tab_ok ?_
                simp only [ev0, evA, evB, evP, fl, gp, tab, simprocAttr, reduceCtorEq, reduceIte]
                refine fin_run trivial (hK _ ?_) <;> clear hK <;> clear K
                refine qa (ql ?_)
                refine hk_loop (ι := Nat × (Int × Int)) (fun x => ⟨203, [(1, .p (.str s)), (7, .p (.list (il (parseS s).1))), (8, .ptr 0 0), (9, .ptr 1 0), (13, .p (.int .i64 x.1))], [.own [.p (.int .i64 (parseS s).2.1), .p (.int .i64 (parseS s).2.2)], .own [.p (.int .i64 x.2.1), .p (.int .i64 x.2.2)]]⟩) (fun x => x.1 ≤ s.size ∧ (x.2.1 = 0 → x.2 = (0, 0) ∧ bad x.1 ((byl s).drop x.1) = bad 0 (byl s)) ∧ (x.2.1 ≠ 0 → x.2 = bad 0 (byl s) ∧ 0 < s.size)) (fun x => s.size - x.1) (0, (0, 0)) ⟨Nat.zero_le _, fun _ => ⟨rfl, rfl⟩, fun h => absurd rfl h⟩ [0, 1] (by simp only [leq, leA, ev0, evA, evB, evP, fl, gp, tab, simprocAttr, reduceCtorEq, reduceIte]) fun x hx => ?_
                obtain ⟨i, u1, u2⟩ := x
                obtain ⟨hi, hz, hnz⟩ := hx
                simp only at hi hz hnz
                refine qm (qm ?_)
                by_cases g24a : (i : Int) < (s.size : Int)
                · refine hk_region fun K hK => runs_eval tab_ok ?_
                  simp only [ev0, evA, evB, evP, fl, gp, tab, simprocAttr, reduceCtorEq, reduceIte, decide_eq_true g24a]
                  refine fin_run ?_ (hK _ ?_) <;> clear hK <;> clear K
                  · (first | exact trivial | omega | (simp only [In64] at *; omega) | (simp [In64] at *; omega) | (simp_all; done) | skip)
                  refine qa ?_
                  refine hk_cond rfl (fun hC10 => ?_) (fun hC10 => ?_)
                  · (try simp only [nhs] at hC10)
                    obtain ⟨hu, hbad⟩ := hz hC10
                    obtain ⟨rfl, rfl⟩ : u1 = 0 ∧ u2 = 0 := by simpa using hu
                    have hlt : i < (byl s).length := by rw [hsz]; omega
                    have hba := byteAt_byl s (show i < s.size by omega)
                    have hdrop : (byl s).drop i = (byl s).getD i 0 :: (byl s).drop (i + 1) := by
                      rw [List.drop_eq_getElem_cons hlt]; simp [List.getD, List.getElem?_eq_getElem hlt]
                    rw [hdrop, bad] at hbad
                    refine qh (qa (qm (ql (qm ?_))))
                    by_cases g26a : 97 ≤ (byl s).getD i 0
                    · by_cases g26b : (byl s).getD i 0 ≤ 122
                      · refine hk_region fun K hK => runs_eval tab_ok ?_
                        simp only [ev0, evA, evB, evP, fl, gp, tab, simprocAttr, reduceCtorEq, reduceIte, hba, decide_eq_true g26a, decide_eq_true g26b]
                        refine fin_run ?_ (hK _ ?_) <;> clear hK <;> clear K
                        · (first | exact trivial | omega | (simp only [In64] at *; omega) | (simp [In64] at *; omega) | (simp_all; done) | skip)
                        refine qa ?_
                        refine hk_cond rfl (fun hC11 => ?_) (fun hC11 => ?_)
                        · cases hC11
                        · refine qh (qd (qa ?_))
                          refine hk_region fun K hK => runs_eval tab_ok ?_
                          simp only [ev0, evA, evB, evP, fl, gp, tab, simprocAttr, reduceCtorEq, reduceIte]
                          refine fin_run ?_ (hK _ ?_) <;> clear hK <;> clear K
                          · (first | exact trivial | omega | (simp only [In64] at *; omega) | (simp [In64] at *; omega) | (simp_all; done) | skip)
                          refine qa ?_
                          refine ⟨(i + 1, (0, 0)), [0, 1], ⟨by simp only; omega, fun _ => ⟨rfl, ?_⟩, fun h => absurd rfl h⟩, by simp only; omega, ?_⟩
                          · rw [if_pos (by omega)] at hbad; exact hbad
                          · simp only [leq, leA, ev0, evA, evB, evP, fl, gp, tab, simprocAttr, reduceCtorEq, reduceIte] <;> omega
                      · by_cases g26c : 65 ≤ (byl s).getD i 0
                        · refine hk_region fun K hK => runs_eval tab_ok ?_
                          simp only [ev0, evA, evB, evP, fl, gp, tab, simprocAttr, reduceCtorEq, reduceIte, hba, decide_eq_true g26a, decide_eq_false g26b, decide_eq_true g26c]
                          refine fin_run ?_ (hK _ ?_) <;> clear hK <;> clear K
                          · (first | exact trivial | omega | (simp only [In64] at *; omega) | (simp [In64] at *; omega) | (simp_all; done) | skip)
                          refine qa ?_
                          refine hk_cond rfl (fun hC11 => ?_) (fun hC11 => ?_)
                          · (try simp only [nhs] at hC11)
                            refine hk_region fun K hK => runs_eval tab_ok ?_
                            simp only [ev0, evA, evB, evP, fl, gp, tab, simprocAttr, reduceCtorEq, reduceIte]
                            refine fin_stop trivial (runs_call (f_c 1 i) rfl rfl rfl (by simp only [dstOk, Nat.reduceLT]) (by repeat (first | exact trivial | constructor)) (runs_eval tab_ok ?_))
                            simp only [ev0, evA, evB, evP, fl, gp, tab, simprocAttr, reduceCtorEq, reduceIte]
                            refine fin_run ?_ (hK _ ?_) <;> clear hK <;> clear K
                            · (first | exact trivial | omega | (simp only [In64] at *; omega) | (simp [In64] at *; omega) | (simp_all; done) | skip)
                            refine qd (qa ?_)
                            refine hk_region fun K hK => runs_eval tab_ok ?_
                            simp only [ev0, evA, evB, evP, fl, gp, tab, simprocAttr, reduceCtorEq, reduceIte]
                            refine fin_run ?_ (hK _ ?_) <;> clear hK <;> clear K
                            · (first | exact trivial | omega | (simp only [In64] at *; omega) | (simp [In64] at *; omega) | (simp_all; done) | skip)
                            refine qa ?_
                            refine ⟨(i + 1, (1, (i : Int))), [0, 1], ⟨by simp only; omega, fun h => by simp at h, fun _ => ⟨?_, by omega⟩⟩, by simp only; omega, ?_⟩
                            · rw [← hbad, if_neg (by omega)]
                            · simp only [leq, leA, ev0, evA, evB, evP, fl, gp, tab, simprocAttr, reduceCtorEq, reduceIte] <;> omega
                          · (try simp only [nhs] at hC11)
                            refine qh (qd (qa ?_))
                            refine hk_region fun K hK => runs_eval tab_ok ?_
                            simp only [ev0, evA, evB, evP, fl, gp, tab, simprocAttr, reduceCtorEq, reduceIte]
                            refine fin_run ?_ (hK _ ?_) <;> clear hK <;> clear K
                            · (first | exact trivial | omega | (simp only [In64] at *; omega) | (simp [In64] at *; omega) | (simp_all; done) | skip)
                            refine qa ?_
                            exfalso; omega
                        · refine hk_region fun K hK => runs_eval tab_ok ?_
                          simp only [ev0, evA, evB, evP, fl, gp, tab, simprocAttr, reduceCtorEq, reduceIte, hba, decide_eq_true g26a, decide_eq_false g26b, decide_eq_false g26c]
                          refine fin_run ?_ (hK _ ?_) <;> clear hK <;> clear K
                          · (first | exact trivial | omega | (simp only [In64] at *; omega) | (simp [In64] at *; omega) | (simp_all; done) | skip)
                          refine qa ?_
                          refine hk_cond rfl (fun hC11 => ?_) (fun hC11 => ?_)
                          · refine hk_region fun K hK => runs_eval tab_ok ?_
                            simp only [ev0, evA, evB, evP, fl, gp, tab, simprocAttr, reduceCtorEq, reduceIte]
                            refine fin_stop trivial (runs_call (f_c 1 i) rfl rfl rfl (by simp only [dstOk, Nat.reduceLT]) (by repeat (first | exact trivial | constructor)) (runs_eval tab_ok ?_))
                            simp only [ev0, evA, evB, evP, fl, gp, tab, simprocAttr, reduceCtorEq, reduceIte]
                            refine fin_run ?_ (hK _ ?_) <;> clear hK <;> clear K
                            · (first | exact trivial | omega | (simp only [In64] at *; omega) | (simp [In64] at *; omega) | (simp_all; done) | skip)
                            refine qd (qa ?_)
                            refine hk_region fun K hK => runs_eval tab_ok ?_
                            simp only [ev0, evA, evB, evP, fl, gp, tab, simprocAttr, reduceCtorEq, reduceIte]
                            refine fin_run ?_ (hK _ ?_) <;> clear hK <;> clear K
                            · (first | exact trivial | omega | (simp only [In64] at *; omega) | (simp [In64] at *; omega) | (simp_all; done) | skip)
                            refine qa ?_
                            refine ⟨(i + 1, (1, (i : Int))), [0, 1], ⟨by simp only; omega, fun h => by simp at h, fun _ => ⟨?_, by omega⟩⟩, by simp only; omega, ?_⟩
                            · rw [← hbad, if_neg (by omega)]
                            · simp only [leq, leA, ev0, evA, evB, evP, fl, gp, tab, simprocAttr, reduceCtorEq, reduceIte] <;> omega
                          · cases hC11
                    · by_cases g26c : 65 ≤ (byl s).getD i 0
                      · refine hk_region fun K hK => runs_eval tab_ok ?_
                        simp only [ev0, evA, evB, evP, fl, gp, tab, simprocAttr, reduceCtorEq, reduceIte, hba, decide_eq_false g26a, decide_eq_true g26c]
                        refine fin_run ?_ (hK _ ?_) <;> clear hK <;> clear K
                        · (first | exact trivial | omega | (simp only [In64] at *; omega) | (simp [In64] at *; omega) | (simp_all; done) | skip)
                        refine qa ?_
                        refine hk_cond rfl (fun hC11 => ?_) (fun hC11 => ?_)
                        · (try simp only [nhs] at hC11)
                          refine hk_region fun K hK => runs_eval tab_ok ?_
                          simp only [ev0, evA, evB, evP, fl, gp, tab, simprocAttr, reduceCtorEq, reduceIte]
                          refine fin_stop trivial (runs_call (f_c 1 i) rfl rfl rfl (by simp only [dstOk, Nat.reduceLT]) (by repeat (first | exact trivial | constructor)) (runs_eval tab_ok ?_))
                          simp only [ev0, evA, evB, evP, fl, gp, tab, simprocAttr, reduceCtorEq, reduceIte]
                          refine fin_run ?_ (hK _ ?_) <;> clear hK <;> clear K
                          · (first | exact trivial | omega | (simp only [In64] at *; omega) | (simp [In64] at *; omega) | (simp_all; done) | skip)
                          refine qd (qa ?_)
                          refine hk_region fun K hK => runs_eval tab_ok ?_
                          simp only [ev0, evA, evB, evP, fl, gp, tab, simprocAttr, reduceCtorEq, reduceIte]
                          refine fin_run ?_ (hK _ ?_) <;> clear hK <;> clear K
                          · (first | exact trivial | omega | (simp only [In64] at *; omega) | (simp [In64] at *; omega) | (simp_all; done) | skip)
                          refine qa ?_
                          refine ⟨(i + 1, (1, (i : Int))), [0, 1], ⟨by simp only; omega, fun h => by simp at h, fun _ => ⟨?_, by omega⟩⟩, by simp only; omega, ?_⟩
                          · rw [← hbad, if_neg (by omega)]
                          · simp only [leq, leA, ev0, evA, evB, evP, fl, gp, tab, simprocAttr, reduceCtorEq, reduceIte] <;> omega
                        · (try simp only [nhs] at hC11)
                          refine qh (qd (qa ?_))
                          refine hk_region fun K hK => runs_eval tab_ok ?_
                          simp only [ev0, evA, evB, evP, fl, gp, tab, simprocAttr, reduceCtorEq, reduceIte]
                          refine fin_run ?_ (hK _ ?_) <;> clear hK <;> clear K
                          · (first | exact trivial | omega | (simp only [In64] at *; omega) | (simp [In64] at *; omega) | (simp_all; done) | skip)
                          refine qa ?_
                          refine ⟨(i + 1, (0, 0)), [0, 1], ⟨by simp only; omega, fun _ => ⟨rfl, ?_⟩, fun h => absurd rfl h⟩, by simp only; omega, ?_⟩
                          · rw [if_pos (by omega)] at hbad; exact hbad
                          · simp only [leq, leA, ev0, evA, evB, evP, fl, gp, tab, simprocAttr, reduceCtorEq, reduceIte] <;> omega
                      · refine hk_region fun K hK => runs_eval tab_ok ?_
                        simp only [ev0, evA, evB, evP, fl, gp, tab, simprocAttr, reduceCtorEq, reduceIte, hba, decide_eq_false g26a, decide_eq_false g26c]
                        refine fin_run ?_ (hK _ ?_) <;> clear hK <;> clear K
                        · (first | exact trivial | omega | (simp only [In64] at *; omega) | (simp [In64] at *; omega) | (simp_all; done) | skip)
                        refine qa ?_
                        refine hk_cond rfl (fun hC11 => ?_) (fun hC11 => ?_)
                        · refine hk_region fun K hK => runs_eval tab_ok ?_
                          simp only [ev0, evA, evB, evP, fl, gp, tab, simprocAttr, reduceCtorEq, reduceIte]
                          refine fin_stop trivial (runs_call (f_c 1 i) rfl rfl rfl (by simp only [dstOk, Nat.reduceLT]) (by repeat (first | exact trivial | constructor)) (runs_eval tab_ok ?_))
                          simp only [ev0, evA, evB, evP, fl, gp, tab, simprocAttr, reduceCtorEq, reduceIte]
                          refine fin_run ?_ (hK _ ?_) <;> clear hK <;> clear K
                          · (first | exact trivial | omega | (simp only [In64] at *; omega) | (simp [In64] at *; omega) | (simp_all; done) | skip)
                          refine qd (qa ?_)
                          refine hk_region fun K hK => runs_eval tab_ok ?_
                          simp only [ev0, evA, evB, evP, fl, gp, tab, simprocAttr, reduceCtorEq, reduceIte]
                          refine fin_run ?_ (hK _ ?_) <;> clear hK <;> clear K
                          · (first | exact trivial | omega | (simp only [In64] at *; omega) | (simp [In64] at *; omega) | (simp_all; done) | skip)
                          refine qa ?_
                          refine ⟨(i + 1, (1, (i : Int))), [0, 1], ⟨by simp only; omega, fun h => by simp at h, fun _ => ⟨?_, by omega⟩⟩, by simp only; omega, ?_⟩
                          · rw [← hbad, if_neg (by omega)]
                          · simp only [leq, leA, ev0, evA, evB, evP, fl, gp, tab, simprocAttr, reduceCtorEq, reduceIte] <;> omega
                        · cases hC11
                  · (try simp only [nhs] at hC10)
                    refine qj (qc (qc (qf (qa (qm ?_)))))
                    refine hk_region fun K hK => runs_eval tab_ok ?_
                    simp only [ev0, evA, evB, evP, fl, gp, tab, simprocAttr, reduceCtorEq, reduceIte]
                    refine fin_run trivial (hK _ ?_) <;> clear hK <;> clear K
                    refine qa ?_
                    refine hk_cond rfl (fun hC12 => ?_) (fun hC12 => ?_)
                    · (try simp only [nhs] at hC12)
                      have e := (ba_beq _ _).1 hC12
                      have e2 : s.size = 0 := by rw [e]; rfl
                      exfalso; omega
                    · (try simp only [nhs] at hC12)
                      obtain ⟨hu, hpos⟩ := hnz hC10
                      have hne : byl s ≠ [] := by intro e; rw [e] at hsz; simp at hsz; omega
                      have hpu : (parseS s).2 = (u1, u2) := by rw [hu]; exact parse_2 hC8 hs1 hne
                      have hp1 : (parseS s).1 = [] := parse_none (by rw [hpu]; exact hC10)
                      refine qh (qa (qm (qm ?_)))
                      refine hk_region fun K hK => runs_eval tab_ok ?_
                      simp only [ev0, evA, evB, evP, fl, gp, tab, simprocAttr, reduceCtorEq, reduceIte, hpu]
                      refine fin_run ?_ (hK _ ?_) <;> clear hK <;> clear K
                      · (first | exact trivial | omega | (simp only [In64] at *; omega) | (simp [In64] at *; omega) | (simp_all; done) | skip)
                      refine qa ?_
                      refine hk_cond rfl (fun hC13 => ?_) (fun hC13 => ?_)
                      · cases hC13
                      · (try simp only [nhs] at hC13)
                        refine qh (qa (qm (qm ?_)))
                        refine hk_region fun K hK => runs_eval tab_ok ?_
                        simp only [ev0, evA, evB, evP, fl, gp, tab, simprocAttr, reduceCtorEq, reduceIte, decide_eq_false hC10]
                        refine fin_run ?_ (hK _ ?_) <;> clear hK <;> clear K
                        · (first | exact trivial | omega | (simp only [In64] at *; omega) | (simp [In64] at *; omega) | (simp_all; done) | skip)
                        refine qa ?_
                        refine hk_cond rfl (fun hC14 => ?_) (fun hC14 => ?_)
                        · refine qm ?_
                          refine hk_region fun K hK => runs_eval tab_ok ?_
                          simp only [ev0, evA, evB, evP, fl, gp, tab, simprocAttr, reduceCtorEq, reduceIte, hp1, il]
                          refine fin_run trivial (hK _ ?_) <;> clear hK <;> clear K
                          refine qa (qk (qb ?_))
                          simp only [Try.results3, enA, ev0, evA, evB, evP, fl, gp, tab, simprocAttr, reduceCtorEq, reduceIte]
                          all_goals ((first | exact rfl | exact ⟨rfl, rfl⟩ | exact ⟨rfl, rfl, rfl⟩ | exact ⟨trivial, rfl⟩ | exact ⟨Nat.le_refl _, rfl⟩ | trivial | (simp; done)))
                        · cases hC14
                · refine hk_region fun K hK => runs_eval tab_ok ?_
                  simp only [ev0, evA, evB, evP, fl, gp, tab, simprocAttr, reduceCtorEq, reduceIte, decide_eq_false g24a]
                  refine fin_run trivial (hK _ ?_) <;> clear hK <;> clear K
                  refine qa ?_
                  refine hk_cond rfl (fun hC10 => ?_) (fun hC10 => ?_)
                  · cases hC10
                  · refine qj (qc (qc (qf (qa (qm ?_)))))
                    refine hk_region fun K hK => runs_eval tab_ok ?_
                    simp only [ev0, evA, evB, evP, fl, gp, tab, simprocAttr, reduceCtorEq, reduceIte]
                    refine fin_run trivial (hK _ ?_) <;> clear hK <;> clear K
                    refine qa ?_
                    refine hk_cond rfl (fun hC12 => ?_) (fun hC12 => ?_)
                    · (try simp only [nhs] at hC12)
                      have e := (ba_beq _ _).1 hC12
                      have hpu : (parseS s).2 = (1, 0) := by
                        rw [parseS, if_neg hC8, if_neg hs1, if_pos (by rw [e]; rfl)]
                      have hp1 : (parseS s).1 = [] := parse_none (by rw [hpu]; simp)
                      refine hk_region fun K hK => runs_eval tab_ok ?_
                      simp only [ev0, evA, evB, evP, fl, gp, tab, simprocAttr, reduceCtorEq, reduceIte]
                      refine fin_stop trivial (runs_call (f_c 1 0) rfl rfl rfl (by simp only [dstOk, Nat.reduceLT]) (by repeat (first | exact trivial | constructor)) (runs_eval tab_ok ?_))
                      simp only [ev0, evA, evB, evP, fl, gp, tab, simprocAttr, reduceCtorEq, reduceIte]
                      refine fin_run ?_ (hK _ ?_) <;> clear hK <;> clear K
                      · (first | exact trivial | omega | (simp only [In64] at *; omega) | (simp [In64] at *; omega) | (simp_all; done) | skip)
                      refine qa (qm (qm ?_))
                      refine hk_region fun K hK => runs_eval tab_ok ?_
                      simp only [ev0, evA, evB, evP, fl, gp, tab, simprocAttr, reduceCtorEq, reduceIte, hpu]
                      refine fin_run ?_ (hK _ ?_) <;> clear hK <;> clear K
                      · (first | exact trivial | omega | (simp only [In64] at *; omega) | (simp [In64] at *; omega) | (simp_all; done) | skip)
                      refine qa ?_
                      refine hk_cond rfl (fun hC13 => ?_) (fun hC13 => ?_)
                      · cases hC13
                      · (try simp only [nhs] at hC13)
                        refine qh (qa (qm (qm ?_)))
                        refine hk_region fun K hK => runs_eval tab_ok ?_
                        simp only [ev0, evA, evB, evP, fl, gp, tab, simprocAttr, reduceCtorEq, reduceIte]
                        refine fin_run ?_ (hK _ ?_) <;> clear hK <;> clear K
                        · (first | exact trivial | omega | (simp only [In64] at *; omega) | (simp [In64] at *; omega) | (simp_all; done) | skip)
                        refine qa ?_
                        refine hk_cond rfl (fun hC14 => ?_) (fun hC14 => ?_)
                        · refine qm ?_
                          refine hk_region fun K hK => runs_eval tab_ok ?_
                          simp only [ev0, evA, evB, evP, fl, gp, tab, simprocAttr, reduceCtorEq, reduceIte, hp1, il]
                          refine fin_run trivial (hK _ ?_) <;> clear hK <;> clear K
                          refine qa (qk (qb ?_))
                          simp only [Try.results3, enA, ev0, evA, evB, evP, fl, gp, tab, simprocAttr, reduceCtorEq, reduceIte]
                          all_goals ((first | exact rfl | exact ⟨rfl, rfl⟩ | exact ⟨rfl, rfl, rfl⟩ | exact ⟨trivial, rfl⟩ | exact ⟨Nat.le_refl _, rfl⟩ | trivial | (simp; done)))
                        · cases hC14
                    · (try simp only [nhs] at hC12)
                      have hne : byl s ≠ [] := by
                        intro e
                        have h0 : s.size = 0 := by rw [← hsz, e]; rfl
                        have : s = ⟨#[]⟩ := by
                          rw [← str_byl s, e]; rfl
                        rw [this, ba_self] at hC12; cases hC12
                      have hin : i = s.size := by omega
                      have hpu : (parseS s).2 = (u1, u2) := by
                        rw [parse_2 hC8 hs1 hne]
                        by_cases h0 : u1 = 0
                        · obtain ⟨e1, e2⟩ := hz h0
                          rw [e1, ← e2, List.drop_of_length_le (by omega), bad]
                        · exact (hnz h0).1.symm
                      refine qh (qa (qm (qm ?_)))
                      refine hk_region fun K hK => runs_eval tab_ok ?_
                      simp only [ev0, evA, evB, evP, fl, gp, tab, simprocAttr, reduceCtorEq, reduceIte, hpu]
                      refine fin_run ?_ (hK _ ?_) <;> clear hK <;> clear K
                      · (first | exact trivial | omega | (simp only [In64] at *; omega) | (simp [In64] at *; omega) | (simp_all; done) | skip)
                      refine qa ?_
                      refine hk_cond rfl (fun hC13 => ?_) (fun hC13 => ?_)
                      · cases hC13
                      · (try simp only [nhs] at hC13)
                        refine qh (qa (qm (qm ?_)))
                        by_cases g32a : u1 = 0
                        · have htp : textS (parseS s).1 = (s, (0, 0)) := text_parse hs1 (by rw [hpu]; exact g32a)
                          refine hk_region fun K hK => runs_eval tab_ok ?_
                          simp only [ev0, evA, evB, evP, fl, gp, tab, simprocAttr, reduceCtorEq, reduceIte, decide_eq_true g32a]
                          refine fin_run ?_ (hK _ ?_) <;> clear hK <;> clear K
                          · (first | exact trivial | omega | (simp only [In64] at *; omega) | (simp [In64] at *; omega) | (simp_all; done) | skip)
                          refine qa ?_
                          refine hk_cond rfl (fun hC14 => ?_) (fun hC14 => ?_)
                          · (try simp only [nhs] at hC14)
                            rw [ba_ne hs1] at hC14; cases hC14
                          · (try simp only [nhs] at hC14)
                            refine qh (qa (qm ?_))
                            refine hk_region fun K hK => runs_eval tab_ok ?_
                            simp only [ev0, evA, evB, evP, fl, gp, tab, simprocAttr, reduceCtorEq, reduceIte, htp]
                            refine fin_stop trivial (runs_call (text_c (parseS s).1) rfl rfl rfl (by simp only [dstOk, Nat.reduceLT]) (by repeat (first | exact trivial | constructor)) (runs_eval tab_ok ?_))
                            simp only [ev0, evA, evB, evP, fl, gp, tab, simprocAttr, reduceCtorEq, reduceIte, htp]
                            refine fin_run ?_ (hK _ ?_) <;> clear hK <;> clear K
                            · (first | exact trivial | omega | (simp only [In64] at *; omega) | (simp [In64] at *; omega) | (simp_all; done) | skip)
                            refine qa (qm ?_)
                            refine hk_region fun K hK => runs_eval tab_ok ?_
                            simp only [ev0, evA, evB, evP, fl, gp, tab, simprocAttr, reduceCtorEq, reduceIte, ba_self]
                            refine fin_run ?_ (hK _ ?_) <;> clear hK <;> clear K
                            · (first | exact trivial | omega | (simp only [In64] at *; omega) | (simp [In64] at *; omega) | (simp_all; done) | skip)
                            refine qa (qk ?_)
                            simp only [Try.results3, enA, ev0, evA, evB, evP, fl, gp, tab, simprocAttr, reduceCtorEq, reduceIte]
                            all_goals ((first | exact rfl | exact ⟨rfl, rfl⟩ | exact ⟨rfl, rfl, rfl⟩ | exact ⟨trivial, rfl⟩ | exact ⟨Nat.le_refl _, rfl⟩ | trivial | (simp; done)))
                        · have hp1 : (parseS s).1 = [] := parse_none (by rw [hpu]; exact g32a)
                          refine hk_region fun K hK => runs_eval tab_ok ?_
                          simp only [ev0, evA, evB, evP, fl, gp, tab, simprocAttr, reduceCtorEq, reduceIte, decide_eq_false g32a]
                          refine fin_run ?_ (hK _ ?_) <;> clear hK <;> clear K
                          · (first | exact trivial | omega | (simp only [In64] at *; omega) | (simp [In64] at *; omega) | (simp_all; done) | skip)
                          refine qa ?_
                          refine hk_cond rfl (fun hC14 => ?_) (fun hC14 => ?_)
                          · refine qm ?_
                            refine hk_region fun K hK => runs_eval tab_ok ?_
                            simp only [ev0, evA, evB, evP, fl, gp, tab, simprocAttr, reduceCtorEq, reduceIte, hp1, il]
                            refine fin_run trivial (hK _ ?_) <;> clear hK <;> clear K
                            refine qa (qk (qb ?_))
                            simp only [Try.results3, enA, ev0, evA, evB, evP, fl, gp, tab, simprocAttr, reduceCtorEq, reduceIte]
                            all_goals ((first | exact rfl | exact ⟨rfl, rfl⟩ | exact ⟨rfl, rfl, rfl⟩ | exact ⟨trivial, rfl⟩ | exact ⟨Nat.le_refl _, rfl⟩ | trivial | (simp; done)))
                          · cases hC14
              · (try simp only [nhs] at hC9)
                have hs1 : s = ⟨#[49]⟩ := by
                  rcases Decidable.em (s = ⟨#[49]⟩) with h | h
                  · exact h
                  · rw [ba_bne h] at hC9; cases hC9
                have hp : parseS s = ([], (0, 0)) := by rw [parseS, if_neg hC8, if_pos hs1]
                have hpu : (parseS s).2 = (0, 0) := by rw [hp]
                have hp1 : (parseS s).1 = [] := by rw [hp]
                refine qh (qa (qm (qm ?_)))
                refine hk_region fun K hK => runs_eval tab_ok ?_
                simp only [ev0, evA, evB, evP, fl, gp, tab, simprocAttr, reduceCtorEq, reduceIte, hpu]
                refine fin_run ?_ (hK _ ?_) <;> clear hK <;> clear K
                · (first | exact trivial | omega | (simp only [In64] at *; omega) | (simp [In64] at *; omega) | (simp_all; done) | skip)
                refine qa ?_
                refine hk_cond rfl (fun hC13 => ?_) (fun hC13 => ?_)
                · cases hC13
                · (try simp only [nhs] at hC13)
                  refine qh (qa (qm (qm ?_)))
                  refine hk_region fun K hK => runs_eval tab_ok ?_
                  simp only [ev0, evA, evB, evP, fl, gp, tab, simprocAttr, reduceCtorEq, reduceIte, (show (s == ⟨#[49]⟩) = true from (ba_beq _ _).2 hs1)]
                  refine fin_run ?_ (hK _ ?_) <;> clear hK <;> clear K
                  · (first | exact trivial | omega | (simp only [In64] at *; omega) | (simp [In64] at *; omega) | (simp_all; done) | skip)
                  refine qa ?_
                  refine hk_cond rfl (fun hC14 => ?_) (fun hC14 => ?_)
                  · (try simp only [nhs] at hC14)
                    refine qm ?_
                    refine hk_region fun K hK => runs_eval tab_ok ?_
                    simp only [ev0, evA, evB, evP, fl, gp, tab, simprocAttr, reduceCtorEq, reduceIte, hp1, il]
                    refine fin_run trivial (hK _ ?_) <;> clear hK <;> clear K
                    refine qa (qk (qb ?_))
                    simp only [Try.results3, enA, ev0, evA, evB, evP, fl, gp, tab, simprocAttr, reduceCtorEq, reduceIte]
                    all_goals ((first | exact rfl | exact ⟨rfl, rfl⟩ | exact ⟨rfl, rfl, rfl⟩ | exact ⟨trivial, rfl⟩ | exact ⟨Nat.le_refl _, rfl⟩ | trivial | (simp; done)))
                  · (try simp only [nhs] at hC14)
                    cases hC14

theorem texts_c (w : List Int) (s : ByteArray) (hw : w.length ≤ 100000000000000) : FnC Try.prog 3 [.list (il w), .str s] (.bool true) := by
  by_cases hc : (check w).1 = 0
  · exact texts1_c w s hc
  · exact texts2_c w s hc
end Go.Proofs.Ytpafmpcecgpfbaa
