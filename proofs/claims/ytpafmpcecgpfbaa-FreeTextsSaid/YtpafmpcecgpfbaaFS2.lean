/-
  Walks: texts of words. Conditions: none.
-/
import Derived.Test.YtpafmpcecgpfbaaFS1
import Derived.Test.YtpafmpcecgpfbaaFA2
set_option linter.all false
namespace Go.Proofs.Ytpafmpcecgpfbaa
open Go.Pv

def Okw (w : List Int) : Prop := ∀ x ∈ w, x ≠ 0 ∧ -26 ≤ x ∧ x ≤ 26
theorem chk_okw : ∀ (w : List Int) (i : Nat), (chk i w).1 = 0 → Okw w
  | [], _, _ => fun x hx => by simp at hx
  | x :: r, i, h => by
    unfold chk at h
    split at h
    · simp at h
    · rename_i hn
      intro y hy
      rcases List.mem_cons.1 hy with rfl | hy
      · omega
      · exact chk_okw r (i + 1) h y hy
theorem check_okw {w : List Int} (h : (check w).1 = 0) : Okw w ∧ w.length ≤ 2000 := by
  unfold check at h
  split at h
  · simp at h
  · exact ⟨chk_okw w 0 h, by omega⟩
theorem okw_chk : ∀ (w : List Int) (i : Nat), Okw w → chk i w = (0, 0)
  | [], _, _ => rfl
  | x :: r, i, h => by
    have h0 := h x (by simp)
    rw [chk, if_neg (by omega)]
    exact okw_chk r (i + 1) fun y hy => h y (by simp [hy])
theorem okw_check {w : List Int} (h : Okw w) (hl : w.length ≤ 2000) : check w = (0, 0) := by
  rw [check, if_neg (by omega)]
  exact okw_chk w 0 h

/-! ### Bytes in a block -/

theorem obw_length (u : List Int) : (opl (bl u)).length = u.length := by simp [opl, bl]
theorem obw_set {u : List Int} {i : Nat} (x : Int) : (opl (bl u)).set i (.p (.int .u8 x)) = opl (bl (u.set i x)) := by
  simp [opl, bl, List.map_set]
theorem obw_new (n : Nat) : List.replicate n (AV.p (.int .u8 0)) = opl (bl (List.replicate n 0)) := by simp [opl, bl]
theorem bl_one (u : List Int) : (bl u).all PV.one = true := by
  simp [bl, PV.one]

theorem wrap_u8 {x : Int} (h0 : 0 ≤ x) (h1 : x < 256) : IntKind.u8.wrap x = x := by
  simp only [IntKind.wrap, IntKind.bits, IntKind.signed]
  simp
  omega
theorem wrap_i64 {x : Int} (h0 : 0 ≤ x) (h1 : x < 256) : IntKind.i64.wrap x = x := by
  simp only [IntKind.wrap, IntKind.bits, IntKind.signed]
  simp [Int.bmod]
  omega

/-! ### What a word is written as -/

def tb (x : Int) : Int := if 0 < x then 96 + x else 64 - x
def txb (w : List Int) : List Int := w.map tb
def tbs (w : List Int) (i : Nat) : List Int := (txb w).take i ++ List.replicate (w.length - i) 0

theorem txb_length (w : List Int) : (txb w).length = w.length := by simp [txb]
theorem tbs_length {w : List Int} {i : Nat} (h : i ≤ w.length) : (tbs w i).length = w.length := by
  simp [tbs, txb]; omega
theorem tbs_zero (w : List Int) : tbs w 0 = List.replicate w.length 0 := by simp [tbs]
theorem tbs_all (w : List Int) : tbs w w.length = txb w := by rw [tbs, List.take_of_length_le (by rw [txb_length]; exact Nat.le_refl _)]; simp
theorem tbs_set {w : List Int} {i : Nat} (h : i < w.length) : (tbs w i).set i (tb (w.getD i 0)) = tbs w (i + 1) := by
  obtain ⟨k, hk⟩ : ∃ k, w.length - i = k + 1 := ⟨w.length - i - 1, by omega⟩
  have hl : ((txb w).take i).length = i := by simp [txb]; omega
  have hi : i < (txb w).length := by rw [txb_length]; exact h
  rw [tbs, tbs, hk, show w.length - (i + 1) = k by omega, List.set_append_right _ _ (by omega), hl, Nat.sub_self, List.replicate_succ, List.set_cons_zero, List.take_succ_eq_append_getElem hi, List.append_assoc]
  congr 1
  simp [txb, List.getD, List.getElem?_eq_getElem h]

def textS (w : List Int) : ByteArray × (Int × Int) :=
  if (check w).1 ≠ 0 then (⟨#[]⟩, check w) else if w = [] then (⟨#[49]⟩, (0, 0)) else (strOfNums (txb w), (0, 0))

theorem text_c (w : List Int) : FnC Try.prog 5 [.list (il w)] (.tup [.str (textS w).1, fl (textS w).2]) := by
  refine fnc_of tab_ok Try.func5 rfl (by kernel_rfl) (by rw [Try.ntmps5]; exact Nat.le_add_left 1 _) ?_; rw [Try.ntmps5]
  refine qm ?_
  refine hk_region fun K hK => runs_eval tab_ok ?_
  simp only [ev0, evA, evB, evP, fl, gp, tab, simprocAttr, reduceCtorEq, reduceIte]
  refine fin_run ?_ (hK _ ?_) <;> clear hK <;> clear K
  · (first | exact trivial | omega | (simp only [In64] at *; omega) | (simp [In64] at *; omega) | (simp_all; done) | skip)
  refine qa (qm (qm ?_))
  refine hk_region fun K hK => runs_eval tab_ok ?_
  simp only [ev0, evA, evB, evP, fl, gp, tab, simprocAttr, reduceCtorEq, reduceIte]
  refine fin_stop trivial (runs_call (check_c w) rfl rfl rfl (by simp only [dstOk, Nat.reduceLT]) (by repeat (first | exact trivial | constructor)) (runs_eval tab_ok ?_))
  simp only [ev0, evA, evB, evP, fl, gp, tab, simprocAttr, reduceCtorEq, reduceIte]
  refine fin_run ?_ (hK _ ?_) <;> clear hK <;> clear K
  · (first | exact trivial | omega | (simp only [In64] at *; omega) | (simp [In64] at *; omega) | (simp_all; done) | skip)
  refine qa (qm ?_)
  refine hk_region fun K hK => runs_eval tab_ok ?_
  simp only [ev0, evA, evB, evP, fl, gp, tab, simprocAttr, reduceCtorEq, reduceIte]
  refine fin_run ?_ (hK _ ?_) <;> clear hK <;> clear K
  · (first | exact trivial | omega | (simp only [In64] at *; omega) | (simp [In64] at *; omega) | (simp_all; done) | skip)
  refine qa ?_
  refine hk_cond rfl (fun hC1 => ?_) (fun hC1 => ?_)
  · (try simp only [nhs] at hC1)
    refine qm ?_
    refine hk_draw mixed (by kernel_rfl) fun K hK => runs_eval tab_ok ?_
    simp only [ev0, evA, evB, evP, fl, gp, tab, simprocAttr, reduceCtorEq, reduceIte]
    refine fin_run ?_ (hK _ ?_) <;> clear hK <;> clear K
    · (first | exact trivial | omega | (simp only [In64] at *; omega) | (simp [In64] at *; omega) | (simp_all; done) | skip)
    refine qa (qk (qb ?_))
    simp only [Try.results5, enA, ev0, evA, evB, evP, fl, gp, tab, simprocAttr, reduceCtorEq, reduceIte]
    rw [textS, if_pos hC1]
    exact ⟨rfl, rfl, rfl⟩
  · (try simp only [nhs] at hC1)
    obtain ⟨hok, hlen⟩ := check_okw (show (check w).1 = 0 by simpa using hC1)
    refine qh (qa (qm (qm ?_)))
    refine hk_region fun K hK => runs_eval tab_ok ?_
    simp only [ev0, evA, evB, evP, fl, gp, tab, simprocAttr, reduceCtorEq, reduceIte]
    refine fin_run trivial (hK _ ?_) <;> clear hK <;> clear K
    refine qa ?_
    refine hk_cond rfl (fun hC2 => ?_) (fun hC2 => ?_)
    · (try simp only [nhs] at hC2)
      refine qm ?_
      refine hk_region fun K hK => runs_eval tab_ok ?_
      simp only [ev0, evA, evB, evP, fl, gp, tab, simprocAttr, reduceCtorEq, reduceIte]
      refine fin_run ?_ (hK _ ?_) <;> clear hK <;> clear K
      · (first | exact trivial | omega | (simp only [In64] at *; omega) | (simp [In64] at *; omega) | (simp_all; done) | skip)
      refine qa (qk (qb ?_))
      simp only [Try.results5, enA, ev0, evA, evB, evP, fl, gp, tab, simprocAttr, reduceCtorEq, reduceIte]
      have hw : w = [] := List.eq_nil_of_length_eq_zero (by omega)
      rw [textS, if_neg (by simpa using hC1), if_pos hw]
      exact ⟨rfl, rfl, rfl⟩
    · (try simp only [nhs] at hC2)
      refine qh (qa (qm ?_))
      refine hk_region fun K hK => runs_eval tab_ok ?_
      simp only [ev0, evA, evB, evP, fl, gp, tab, simprocAttr, reduceCtorEq, reduceIte, makeSliceA.eq_def, obw_new]
      refine fin_run ?_ (hK _ ?_) <;> clear hK <;> clear K
      · (first | exact trivial | omega | (simp only [In64] at *; omega) | (simp [In64] at *; omega) | (simp_all; done) | skip)
      refine qa (qm (qm ?_))
      refine hk_region fun K hK => runs_eval tab_ok ?_
      simp only [ev0, evA, evB, evP, fl, gp, tab, simprocAttr, reduceCtorEq, reduceIte]
      refine fin_run trivial (hK _ ?_) <;> clear hK <;> clear K
      refine qa (ql ?_)
      refine hk_loop (ι := Nat) (fun i => ⟨48, [(3, .ptr 0 0), (5, .sl 1 0 w.length), (21, .p (.list (il w))), (22, .p (.int .i64 w.length)), (23, .p (.int .i64 i))], [.own [.p (.int .i64 0), .p (.int .i64 0)], .own (opl (bl (tbs w i)))]⟩) (fun i => i ≤ w.length) (fun i => w.length - i) 0 (Nat.zero_le _) [0, 2] (by rw [tbs_zero]; simp only [leq, leA, ev0, evA, evB, evP, fl, gp, tab, simprocAttr, reduceCtorEq, reduceIte]) fun i hi => ?_
      refine qm ?_
      refine hk_region fun K hK => runs_eval tab_ok ?_
      simp only [ev0, evA, evB, evP, fl, gp, tab, simprocAttr, reduceCtorEq, reduceIte]
      refine fin_run trivial (hK _ ?_) <;> clear hK <;> clear K
      refine qa (qm ?_)
      refine hk_cond rfl (fun hC3 => ?_) (fun hC3 => ?_)
      · (try simp only [nhs] at hC3)
        have hlt : i < w.length := by omega
        have hx := hok (w.getD i 0) (by simp [List.getD, List.getElem?_eq_getElem hlt])
        have hl := tbs_length (Nat.le_of_lt hlt)
        have hs := tbs_set hlt
        have htb : 0 ≤ tb (w.getD i 0) ∧ tb (w.getD i 0) < 256 := by unfold tb; split <;> omega
        refine qh (qa (qm (ql (qm ?_))))
        refine hk_region fun K hK => runs_eval tab_ok ?_
        simp only [ev0, evA, evB, evP, fl, gp, tab, simprocAttr, reduceCtorEq, reduceIte, il_get hlt]
        refine fin_run ?_ (hK _ ?_) <;> clear hK <;> clear K
        · (first | exact trivial | omega | (simp only [In64] at *; omega) | (simp [In64] at *; omega) | (simp_all; done) | skip)
        refine qa (qm ?_)
        refine hk_region fun K hK => runs_eval tab_ok ?_
        simp only [ev0, evA, evB, evP, fl, gp, tab, simprocAttr, reduceCtorEq, reduceIte]
        refine fin_run trivial (hK _ ?_) <;> clear hK <;> clear K
        refine qa ?_
        refine hk_cond rfl (fun hC4 => ?_) (fun hC4 => ?_)
        · (try simp only [nhs] at hC4)
          refine hk_region fun K hK => runs_eval tab_ok ?_
          simp only [ev0, evA, evB, evP, fl, gp, tab, simprocAttr, reduceCtorEq, reduceIte, wrap_u8 htb.1 htb.2, obw_set, hl, (show 97 + w.getD i 0 - 1 = tb (w.getD i 0) by unfold tb; rw [if_pos (by omega)]; omega), hs]
          refine fin_run ?_ (hK _ ?_) <;> clear hK <;> clear K
          · rw [bl_length, hl]; simp only [In64]; omega
          refine qd (qa ?_)
          refine hk_region fun K hK => runs_eval tab_ok ?_
          simp only [ev0, evA, evB, evP, fl, gp, tab, simprocAttr, reduceCtorEq, reduceIte]
          refine fin_run ?_ (hK _ ?_) <;> clear hK <;> clear K
          · (first | exact trivial | omega | (simp only [In64] at *; omega) | (simp [In64] at *; omega) | (simp_all; done) | skip)
          refine qa ?_
          refine ⟨i + 1, [0, 1], by omega, by omega, ?_⟩
          simp only [leq, leA, ev0, evA, evB, evP, fl, gp, tab, simprocAttr, reduceCtorEq, reduceIte]
        · (try simp only [nhs] at hC4)
          refine hk_region fun K hK => runs_eval tab_ok ?_
          simp only [ev0, evA, evB, evP, fl, gp, tab, simprocAttr, reduceCtorEq, reduceIte, wrap_u8 htb.1 htb.2, obw_set, hl, (show 65 - w.getD i 0 - 1 = tb (w.getD i 0) by unfold tb; rw [if_neg (by omega)]; omega), hs]
          refine fin_run ?_ (hK _ ?_) <;> clear hK <;> clear K
          · rw [bl_length, hl]; simp only [In64]; omega
          refine qd (qa ?_)
          refine hk_region fun K hK => runs_eval tab_ok ?_
          simp only [ev0, evA, evB, evP, fl, gp, tab, simprocAttr, reduceCtorEq, reduceIte]
          refine fin_run ?_ (hK _ ?_) <;> clear hK <;> clear K
          · (first | exact trivial | omega | (simp only [In64] at *; omega) | (simp [In64] at *; omega) | (simp_all; done) | skip)
          refine qa ?_
          refine ⟨i + 1, [0, 1], by omega, by omega, ?_⟩
          simp only [leq, leA, ev0, evA, evB, evP, fl, gp, tab, simprocAttr, reduceCtorEq, reduceIte]
      · (try simp only [nhs] at hC3)
        refine qj (qc (qc (qf (qa (qm ?_)))))
        have hin : i = w.length := by omega
        subst hin
        rw [tbs_all]
        refine hk_freeze 1 rfl (opl_allP _) ?_
        refine hk_pure 5 rfl ⟨by simp [bl, txb], ?_⟩ ?_
        · rw [List.drop_zero, List.take_of_length_le (by simp [bl, txb])]; exact bl_one _
        simp only [List.drop_zero]
        rw [List.take_of_length_le (by simp [bl, txb])]
        refine hk_region fun K hK => runs_eval tab_ok ?_
        simp only [ev0, evA, evB, evP, fl, gp, tab, simprocAttr, reduceCtorEq, reduceIte]
        refine fin_stop ?_ (runs_op (toText_does tab_ok rfl rfl rfl rfl rfl rfl rfl rfl) rfl (by simp only [dstOk, Nat.reduceLT]) (runs_eval tab_ok ?_))
        · (first | exact trivial | omega | (simp only [In64] at *; omega) | (simp [In64] at *; omega) | (simp_all; done) | skip)
        simp only [ev0, evA, evB, evP, fl, gp, tab, simprocAttr, reduceCtorEq, reduceIte]
        refine fin_run ?_ (hK _ ?_) <;> clear hK <;> clear K
        · (first | exact trivial | omega | (simp only [In64] at *; omega) | (simp [In64] at *; omega) | (simp_all; done) | skip)
        refine qa (qk ?_)
        simp only [Try.results5, enA, ev0, evA, evB, evP, fl, gp, tab, simprocAttr, reduceCtorEq, reduceIte]
        have hne : w ≠ [] := by intro e; subst e; simp at hC2
        rw [textS, if_neg (by simpa using hC1), if_neg hne]
        exact ⟨rfl, rfl, rfl⟩

/-! ### What a text is read as -/

def bad : Nat → List Int → Int × Int
  | _, [] => (0, 0)
  | i, c :: r => if 97 ≤ c ∧ c ≤ 122 ∨ 65 ≤ c ∧ c ≤ 90 then bad (i + 1) r else (1, i)
def unb (c : Int) : Int := if 97 ≤ c then c - 96 else 64 - c
def parseS (s : ByteArray) : List Int × (Int × Int) :=
  if (s.size : Int) > 2000 then ([], (2, 0)) else if s = ⟨#[49]⟩ then ([], (0, 0)) else if byl s = [] then ([], (1, 0)) else if (bad 0 (byl s)).1 ≠ 0 then ([], bad 0 (byl s)) else ((byl s).map unb, (0, 0))

theorem ba_beq (a b : ByteArray) : (a == b) = true ↔ a = b := by
  cases a with | mk x => cases b with | mk y =>
  constructor
  · intro h
    have : (x == y) = true := h
    rw [eq_of_beq this]
  · intro h
    cases h
    show (x == x) = true
    exact BEq.rfl

theorem byl_rng (s : ByteArray) : ∀ x ∈ byl s, 0 ≤ x ∧ x < 256 := by
  intro x hx
  simp only [byl, List.mem_map] at hx
  obtain ⟨b, _, rfl⟩ := hx
  have := b.toNat_lt
  omega

theorem take_map {u : List Int} {i : Nat} (h : i < u.length) (f : Int → Int) : (u.take i).map f ++ [f (u.getD i 0)] = (u.take (i + 1)).map f := by
  rw [List.take_succ_eq_append_getElem h, List.map_append]
  simp [List.getD, List.getElem?_eq_getElem h]

theorem parse_c (s : ByteArray) : FnC Try.prog 7 [.str s] (.tup [.list (il (parseS s).1), fl (parseS s).2]) := by
  have hsz := byl_length s
  refine fnc_of tab_ok Try.func7 rfl (by kernel_rfl) (by rw [Try.ntmps7]; exact Nat.le_add_left 1 _) ?_; rw [Try.ntmps7]
  refine qm ?_
  refine hk_region fun K hK => runs_eval tab_ok ?_
  simp only [ev0, evA, evB, evP, fl, gp, tab, simprocAttr, reduceCtorEq, reduceIte]
  refine fin_run ?_ (hK _ ?_) <;> clear hK <;> clear K
  · (first | exact trivial | omega | (simp only [In64] at *; omega) | (simp [In64] at *; omega) | (simp_all; done) | skip)
  refine qa (qm (qm ?_))
  refine hk_region fun K hK => runs_eval tab_ok ?_
  simp only [ev0, evA, evB, evP, fl, gp, tab, simprocAttr, reduceCtorEq, reduceIte]
  refine fin_run trivial (hK _ ?_) <;> clear hK <;> clear K
  refine qa ?_
  refine hk_cond rfl (fun hC1 => ?_) (fun hC1 => ?_)
  · (try simp only [nhs] at hC1)
    refine qm ?_
    refine hk_region fun K hK => runs_eval tab_ok ?_
    simp only [ev0, evA, evB, evP, fl, gp, tab, simprocAttr, reduceCtorEq, reduceIte]
    refine fin_stop trivial (runs_call (fault_c 2 0) rfl rfl rfl (by simp only [dstOk, Nat.reduceLT]) (by repeat (first | exact trivial | constructor)) (runs_eval tab_ok ?_))
    simp only [ev0, evA, evB, evP, fl, gp, tab, simprocAttr, reduceCtorEq, reduceIte]
    refine fin_run ?_ (hK _ ?_) <;> clear hK <;> clear K
    · (first | exact trivial | omega | (simp only [In64] at *; omega) | (simp [In64] at *; omega) | (simp_all; done) | skip)
    refine qa (qk (qb ?_))
    simp only [Try.results7, enA, ev0, evA, evB, evP, fl, gp, tab, simprocAttr, reduceCtorEq, reduceIte]
    rw [parseS, if_pos (by omega)]
    exact ⟨rfl, rfl, rfl⟩
  · (try simp only [nhs] at hC1)
    refine qh (qa (qm (qm ?_)))
    refine hk_region fun K hK => runs_eval tab_ok ?_
    simp only [ev0, evA, evB, evP, fl, gp, tab, simprocAttr, reduceCtorEq, reduceIte]
    refine fin_run trivial (hK _ ?_) <;> clear hK <;> clear K
    refine qa ?_
    refine hk_cond rfl (fun hC2 => ?_) (fun hC2 => ?_)
    · (try simp only [nhs] at hC2)
      refine qm ?_
      refine hk_region fun K hK => runs_eval tab_ok ?_
      simp only [ev0, evA, evB, evP, fl, gp, tab, simprocAttr, reduceCtorEq, reduceIte]
      refine fin_run ?_ (hK _ ?_) <;> clear hK <;> clear K
      · (first | exact trivial | omega | (simp only [In64] at *; omega) | (simp [In64] at *; omega) | (simp_all; done) | skip)
      refine qa (qk (qb ?_))
      simp only [Try.results7, enA, ev0, evA, evB, evP, fl, gp, tab, simprocAttr, reduceCtorEq, reduceIte]
      rw [parseS, if_neg (by omega), if_pos ((ba_beq _ _).1 hC2)]
      exact ⟨rfl, rfl, rfl⟩
    · (try simp only [nhs] at hC2)
      have hs1 : ¬ s = ⟨#[49]⟩ := fun e => by rw [(ba_beq _ _).2 e] at hC2; cases hC2
      refine qh (qa (qm ?_))
      refine hk_region fun K hK => runs_eval tab_ok ?_
      simp only [ev0, evA, evB, evP, fl, gp, tab, simprocAttr, reduceCtorEq, reduceIte]
      refine fin_run trivial (hK _ ?_) <;> clear hK <;> clear K
      refine qa (qm (qm ?_))
      refine hk_region fun K hK => runs_eval tab_ok ?_
      simp only [ev0, evA, evB, evP, fl, gp, tab, simprocAttr, reduceCtorEq, reduceIte, bl_length, hsz]
      refine fin_stop ?_ (runs_op (toBytes_does tab_ok rfl rfl rfl rfl rfl rfl rfl rfl) rfl (by simp only [dstOk, Nat.reduceLT]) (runs_eval tab_ok ?_))
      · (first | exact trivial | omega | (simp only [In64] at *; omega) | (simp [In64] at *; omega) | (simp_all; done) | skip)
      simp only [ev0, evA, evB, evP, fl, gp, tab, simprocAttr, reduceCtorEq, reduceIte, bl_length, hsz]
      refine fin_run trivial (hK _ ?_) <;> clear hK <;> clear K
      refine qa (ql ?_)
      refine hk_own0 4 rfl ?_
      refine hk_loop (ι := Nat) (fun i => ⟨60, [(3, .ptr 0 0), (4, .sl 1 0 i), (15, .p (.list (bl (byl s)))), (16, .p (.int .i64 s.size)), (17, .p (.int .i64 i))], [.own [.p (.int .i64 0), .p (.int .i64 0)], .own (ol (((byl s).take i).map unb))]⟩) (fun i => i ≤ s.size ∧ bad i ((byl s).drop i) = bad 0 (byl s)) (fun i => s.size - i) 0 ⟨Nat.zero_le _, rfl⟩ [0, 1] (by simp only [leq, leA, ev0, evA, evB, evP, fl, gp, tab, simprocAttr, reduceCtorEq, reduceIte] <;> simp [ol_nil]) fun i hi => ?_
      obtain ⟨hi, hbad⟩ := hi
      refine qm ?_
      refine hk_region fun K hK => runs_eval tab_ok ?_
      simp only [ev0, evA, evB, evP, fl, gp, tab, simprocAttr, reduceCtorEq, reduceIte]
      refine fin_run trivial (hK _ ?_) <;> clear hK <;> clear K
      refine qa (qm ?_)
      refine hk_cond rfl (fun hC3 => ?_) (fun hC3 => ?_)
      · (try simp only [nhs] at hC3)
        have hlt : i < (byl s).length := by omega
        have hx := byl_rng s ((byl s).getD i 0) (by simp [List.getD, List.getElem?_eq_getElem hlt])
        have htm := take_map hlt unb
        have hdrop : (byl s).drop i = (byl s).getD i 0 :: (byl s).drop (i + 1) := by
          rw [List.drop_eq_getElem_cons hlt]; simp [List.getD, List.getElem?_eq_getElem hlt]
        rw [hdrop, bad] at hbad
        have hl : (((byl s).take i).map unb).length = i := by simp; omega
        refine qh (qa (qm (ql (qm ?_))))
        refine hk_region fun K hK => runs_eval tab_ok ?_
        simp only [ev0, evA, evB, evP, fl, gp, tab, simprocAttr, reduceCtorEq, reduceIte, bl_get hlt]
        refine fin_run ?_ (hK _ ?_) <;> clear hK <;> clear K
        · rw [bl_length]; omega
        refine qa (ql (qm ?_))
        by_cases g10a : 97 ≤ (byl s).getD i 0
        · refine hk_region fun K hK => runs_eval tab_ok ?_
          simp only [ev0, evA, evB, evP, fl, gp, tab, simprocAttr, reduceCtorEq, reduceIte, decide_eq_true g10a]
          refine fin_run trivial (hK _ ?_) <;> clear hK <;> clear K
          refine qa ?_
          refine hk_cond rfl (fun hC4 => ?_) (fun hC4 => ?_)
          · (try simp only [nhs] at hC4)
            refine hk_region fun K hK => runs_eval tab_ok ?_
            simp only [ev0, evA, evB, evP, fl, gp, tab, simprocAttr, reduceCtorEq, reduceIte, wrap_u8 (show 0 ≤ (byl s).getD i 0 - 97 by omega) (by omega), wrap_i64 (show 0 ≤ (byl s).getD i 0 - 97 by omega) (by omega), ol_snoc, hl, (show (byl s).getD i 0 - 97 + 1 = unb ((byl s).getD i 0) by unfold unb; rw [if_pos g10a]; omega), htm]
            refine fin_run ?_ (hK _ ?_) <;> clear hK <;> clear K
            · simp only [In64]; have hu : unb ((byl s).getD i 0) = (byl s).getD i 0 - 96 := by unfold unb; rw [if_pos g10a]
              omega
            refine qd (qd (qa ?_))
            refine hk_region fun K hK => runs_eval tab_ok ?_
            simp only [ev0, evA, evB, evP, fl, gp, tab, simprocAttr, reduceCtorEq, reduceIte]
            refine fin_run ?_ (hK _ ?_) <;> clear hK <;> clear K
            · (first | exact trivial | omega | (simp only [In64] at *; omega) | (simp [In64] at *; omega) | (simp_all; done) | skip)
            refine qa ?_
            refine ⟨i + 1, [0, 2], ⟨by omega, ?_⟩, by omega, ?_⟩
            · rw [if_pos (by omega)] at hbad; exact hbad
            · simp only [leq, leA, ev0, evA, evB, evP, fl, gp, tab, simprocAttr, reduceCtorEq, reduceIte]
              rw [List.take_of_length_le (show (((byl s).take i).map unb).length ≤ i by omega), htm, List.take_length]
          · (try simp only [nhs] at hC4)
            refine qm ?_
            refine hk_region fun K hK => runs_eval tab_ok ?_
            simp only [ev0, evA, evB, evP, fl, gp, tab, simprocAttr, reduceCtorEq, reduceIte, decide_eq_true (show 65 ≤ (byl s).getD i 0 by omega)]
            refine fin_run trivial (hK _ ?_) <;> clear hK <;> clear K
            refine qa ?_
            refine hk_cond rfl (fun hC5 => ?_) (fun hC5 => ?_)
            · (try simp only [nhs] at hC5)
              exfalso; omega
            · (try simp only [nhs] at hC5)
              refine qm ?_
              refine hk_region fun K hK => runs_eval tab_ok ?_
              simp only [ev0, evA, evB, evP, fl, gp, tab, simprocAttr, reduceCtorEq, reduceIte]
              refine fin_stop trivial (runs_call (fault_c 1 i) rfl rfl rfl (by simp only [dstOk, Nat.reduceLT]) (by repeat (first | exact trivial | constructor)) (runs_eval tab_ok ?_))
              simp only [ev0, evA, evB, evP, fl, gp, tab, simprocAttr, reduceCtorEq, reduceIte]
              refine fin_run ?_ (hK _ ?_) <;> clear hK <;> clear K
              · (first | exact trivial | omega | (simp only [In64] at *; omega) | (simp [In64] at *; omega) | (simp_all; done) | skip)
              refine qa (qk (qe (qe (qb (qb (qe (qb ?_)))))))
              simp only [Try.results7, enA, ev0, evA, evB, evP, fl, gp, tab, simprocAttr, reduceCtorEq, reduceIte]
              have hb : bad 0 (byl s) = (1, (i : Int)) := by rw [← hbad, if_neg (by omega)]
              have hne : byl s ≠ [] := by intro e; rw [e] at hlt; simp at hlt
              rw [parseS, if_neg (by omega), if_neg hs1, if_neg hne, if_pos (by rw [hb]; simp), hb]
              exact ⟨rfl, rfl, rfl⟩
        · refine hk_region fun K hK => runs_eval tab_ok ?_
          simp only [ev0, evA, evB, evP, fl, gp, tab, simprocAttr, reduceCtorEq, reduceIte, decide_eq_false g10a]
          refine fin_run trivial (hK _ ?_) <;> clear hK <;> clear K
          refine qa ?_
          refine hk_cond rfl (fun hC4 => ?_) (fun hC4 => ?_)
          · cases hC4
          · refine qm ?_
            by_cases g12a : 65 ≤ (byl s).getD i 0
            · refine hk_region fun K hK => runs_eval tab_ok ?_
              simp only [ev0, evA, evB, evP, fl, gp, tab, simprocAttr, reduceCtorEq, reduceIte, decide_eq_true g12a]
              refine fin_run trivial (hK _ ?_) <;> clear hK <;> clear K
              refine qa ?_
              refine hk_cond rfl (fun hC5 => ?_) (fun hC5 => ?_)
              · (try simp only [nhs] at hC5)
                refine hk_region fun K hK => runs_eval tab_ok ?_
                simp only [ev0, evA, evB, evP, fl, gp, tab, simprocAttr, reduceCtorEq, reduceIte, wrap_u8 (show 0 ≤ (byl s).getD i 0 - 65 by omega) (by omega), wrap_i64 (show 0 ≤ (byl s).getD i 0 - 65 by omega) (by omega), ol_snoc, hl, (show -((byl s).getD i 0 - 65) - 1 = unb ((byl s).getD i 0) by unfold unb; rw [if_neg g10a]; omega), htm]
                refine fin_run ?_ (hK _ ?_) <;> clear hK <;> clear K
                · simp only [In64]; have hu : unb ((byl s).getD i 0) = 64 - (byl s).getD i 0 := by unfold unb; rw [if_neg g10a]
                  omega
                refine qd (qd (qa ?_))
                refine hk_region fun K hK => runs_eval tab_ok ?_
                simp only [ev0, evA, evB, evP, fl, gp, tab, simprocAttr, reduceCtorEq, reduceIte]
                refine fin_run ?_ (hK _ ?_) <;> clear hK <;> clear K
                · (first | exact trivial | omega | (simp only [In64] at *; omega) | (simp [In64] at *; omega) | (simp_all; done) | skip)
                refine qa ?_
                refine ⟨i + 1, [0, 2], ⟨by omega, ?_⟩, by omega, ?_⟩
                · rw [if_pos (by omega)] at hbad; exact hbad
                · simp only [leq, leA, ev0, evA, evB, evP, fl, gp, tab, simprocAttr, reduceCtorEq, reduceIte]
                  rw [List.take_of_length_le (show (((byl s).take i).map unb).length ≤ i by omega), htm, List.take_length]
              · (try simp only [nhs] at hC5)
                refine qm ?_
                refine hk_region fun K hK => runs_eval tab_ok ?_
                simp only [ev0, evA, evB, evP, fl, gp, tab, simprocAttr, reduceCtorEq, reduceIte]
                refine fin_stop trivial (runs_call (fault_c 1 i) rfl rfl rfl (by simp only [dstOk, Nat.reduceLT]) (by repeat (first | exact trivial | constructor)) (runs_eval tab_ok ?_))
                simp only [ev0, evA, evB, evP, fl, gp, tab, simprocAttr, reduceCtorEq, reduceIte]
                refine fin_run ?_ (hK _ ?_) <;> clear hK <;> clear K
                · (first | exact trivial | omega | (simp only [In64] at *; omega) | (simp [In64] at *; omega) | (simp_all; done) | skip)
                refine qa (qk (qe (qe (qb (qb (qe (qb ?_)))))))
                simp only [Try.results7, enA, ev0, evA, evB, evP, fl, gp, tab, simprocAttr, reduceCtorEq, reduceIte]
                have hb : bad 0 (byl s) = (1, (i : Int)) := by rw [← hbad, if_neg (by omega)]
                have hne : byl s ≠ [] := by intro e; rw [e] at hlt; simp at hlt
                rw [parseS, if_neg (by omega), if_neg hs1, if_neg hne, if_pos (by rw [hb]; simp), hb]
                exact ⟨rfl, rfl, rfl⟩
            · refine hk_region fun K hK => runs_eval tab_ok ?_
              simp only [ev0, evA, evB, evP, fl, gp, tab, simprocAttr, reduceCtorEq, reduceIte, decide_eq_false g12a]
              refine fin_run trivial (hK _ ?_) <;> clear hK <;> clear K
              refine qa ?_
              refine hk_cond rfl (fun hC5 => ?_) (fun hC5 => ?_)
              · cases hC5
              · refine qm ?_
                refine hk_region fun K hK => runs_eval tab_ok ?_
                simp only [ev0, evA, evB, evP, fl, gp, tab, simprocAttr, reduceCtorEq, reduceIte]
                refine fin_stop trivial (runs_call (fault_c 1 i) rfl rfl rfl (by simp only [dstOk, Nat.reduceLT]) (by repeat (first | exact trivial | constructor)) (runs_eval tab_ok ?_))
                simp only [ev0, evA, evB, evP, fl, gp, tab, simprocAttr, reduceCtorEq, reduceIte]
                refine fin_run ?_ (hK _ ?_) <;> clear hK <;> clear K
                · (first | exact trivial | omega | (simp only [In64] at *; omega) | (simp [In64] at *; omega) | (simp_all; done) | skip)
                refine qa (qk (qe (qe (qb (qb (qe (qb ?_)))))))
                simp only [Try.results7, enA, ev0, evA, evB, evP, fl, gp, tab, simprocAttr, reduceCtorEq, reduceIte]
                have hb : bad 0 (byl s) = (1, (i : Int)) := by rw [← hbad, if_neg (by omega)]
                have hne : byl s ≠ [] := by intro e; rw [e] at hlt; simp at hlt
                rw [parseS, if_neg (by omega), if_neg hs1, if_neg hne, if_pos (by rw [hb]; simp), hb]
                exact ⟨rfl, rfl, rfl⟩
      · (try simp only [nhs] at hC3)
        have hin : i = s.size := by omega
        subst hin
        rw [List.drop_of_length_le (by omega), bad] at hbad
        rw [List.take_of_length_le (by omega)]
        refine qj (qc (qc (qf (qa (qm (qm ?_))))))
        refine hk_region fun K hK => runs_eval tab_ok ?_
        simp only [ev0, evA, evB, evP, fl, gp, tab, simprocAttr, reduceCtorEq, reduceIte]
        refine fin_run trivial (hK _ ?_) <;> clear hK <;> clear K
        refine qa ?_
        refine hk_cond rfl (fun hC6 => ?_) (fun hC6 => ?_)
        · (try simp only [nhs] at hC6)
          refine qm ?_
          refine hk_region fun K hK => runs_eval tab_ok ?_
          simp only [ev0, evA, evB, evP, fl, gp, tab, simprocAttr, reduceCtorEq, reduceIte]
          refine fin_stop trivial (runs_call (fault_c 1 0) rfl rfl rfl (by simp only [dstOk, Nat.reduceLT]) (by repeat (first | exact trivial | constructor)) (runs_eval tab_ok ?_))
          simp only [ev0, evA, evB, evP, fl, gp, tab, simprocAttr, reduceCtorEq, reduceIte]
          refine fin_run ?_ (hK _ ?_) <;> clear hK <;> clear K
          · (first | exact trivial | omega | (simp only [In64] at *; omega) | (simp [In64] at *; omega) | (simp_all; done) | skip)
          refine qa (qk (qb ?_))
          simp only [Try.results7, enA, ev0, evA, evB, evP, fl, gp, tab, simprocAttr, reduceCtorEq, reduceIte]
          have h0 : byl s = [] := List.eq_nil_of_length_eq_zero (by omega)
          rw [parseS, if_neg (by omega), if_neg hs1, if_pos h0]
          exact ⟨rfl, rfl, rfl⟩
        · (try simp only [nhs] at hC6)
          refine qh (qa (qm ?_))
          refine hk_region fun K hK => runs_eval tab_ok ?_
          simp only [ev0, evA, evB, evP, fl, gp, tab, simprocAttr, reduceCtorEq, reduceIte]
          refine fin_run ?_ (hK _ ?_) <;> clear hK <;> clear K
          · (first | exact trivial | omega | (simp only [In64] at *; omega) | (simp [In64] at *; omega) | (simp_all; done) | skip)
          refine qa (qk ?_)
          simp only [Try.results7, enA, ev0, evA, evB, evP, fl, gp, tab, simprocAttr, reduceCtorEq, reduceIte]
          have hne : byl s ≠ [] := by intro e; rw [e] at hsz; simp at hsz; omega
          rw [parseS, if_neg (by omega), if_neg hs1, if_neg hne, if_neg (by rw [← hbad]; simp)]
          rw [List.take_of_length_le (show ((byl s).map unb).length ≤ s.size by simp [hsz])]
          refine ⟨by simp [hsz], ?_⟩
          exact ⟨rfl, rfl, rfl⟩
end Go.Proofs.Ytpafmpcecgpfbaa
