/-
  How many bits are set; lists compared. Conditions: none.
-/
import Derived.Test.YtjikchbmkodgfaaDoorG27
import Derived.Test.YtjikchbmkodgfaaDoorS4
set_option linter.all false
namespace Go.Proofs.YtjikchbmkodgfaaDoor
open Go.Pv

theorem add_u (a b : Int) : binInt .add .u64 a b = (True, .int .u64 (IntKind.u64.wrap (a + b))) := rfl
theorem wadd_u {a b : Nat} (h : a + b < 2 ^ 64) : IntKind.u64.wrap ((a : Int) + (b : Int)) = ((a + b : Nat) : Int) := by
  rw [← Int.natCast_add]; exact wrap_n h
theorem cnv_i {a : Nat} (ha : a < 2 ^ 63) : IntKind.i64.wrap (a : Int) = (a : Int) := by
  simp only [IntKind.wrap, IntKind.bits, IntKind.signed]
  simp [Int.bmod]
  omega
theorem bv_and7 {a : Nat} (ha : a < 2 ^ 63) : bitsV (fun _ x y => x &&& y) .i64 (a : Int) 127 = .int .i64 ((a &&& 127 : Nat) : Int) := by
  have h1 : (BitVec.ofInt 64 (127 : Int)).toNat = 127 := by decide
  have h2 : a &&& 127 ≤ a := Nat.and_le_left
  show PV.int .i64 (IntKind.i64.wrap ((BitVec.ofInt 64 (a : Int) &&& BitVec.ofInt 64 (127 : Int)).toNat : Int)) = _
  rw [BitVec.toNat_and, ofInt_n (by omega), h1, cnv_i (by omega)]

theorem ones_c (x : Nat) (hx : x < 2 ^ 64) : FnC Tryd.prog 110 [.int .u64 x] (.int .i64 (cnt 64 x)) := by
  have m1 : msk8 85 8 = 6148914691236517205 := rfl
  have m2 : msk8 51 8 = 3689348814741910323 := rfl
  have m3 : msk8 15 8 = 1085102592571150095 := rfl
  have b1 : p1 6148914691236517205 x < 2 ^ 64 := by
    have h1 : x / 2 &&& 6148914691236517205 ≤ 6148914691236517205 := Nat.and_le_right
    have h2 : x &&& 6148914691236517205 ≤ 6148914691236517205 := Nat.and_le_right
    unfold p1; omega
  have e1 : p1 6148914691236517205 x = (x / 2 &&& 6148914691236517205) + (x &&& 6148914691236517205) := rfl
  have s1 : (x : Int).fdiv (2 ^ (min 1 IntKind.u64.bits)) = ((x / 2 : Nat) : Int) := shr_n (a := x) (b := 1) (by omega)
  have a1 : bitsV (fun _ x y => x &&& y) .u64 ((x / 2 : Nat) : Int) 6148914691236517205 = .int .u64 ((x / 2 &&& 6148914691236517205 : Nat) : Int) := bv_and (b := 6148914691236517205) (by omega) (by decide)
  have a2 : bitsV (fun _ x y => x &&& y) .u64 (x : Int) 6148914691236517205 = .int .u64 ((x &&& 6148914691236517205 : Nat) : Int) := bv_and (b := 6148914691236517205) (by omega) (by decide)
  have w1 := wadd_u (by rw [← e1]; exact b1 : (x / 2 &&& 6148914691236517205) + (x &&& 6148914691236517205) < 2 ^ 64)
  rw [← e1] at w1
  generalize hy1 : p1 6148914691236517205 x = y1 at *
  have b2 : p2 3689348814741910323 y1 ≤ 7378697629483820646 := by
    have h1 : y1 / 4 &&& 3689348814741910323 ≤ 3689348814741910323 := Nat.and_le_right
    have h2 : y1 &&& 3689348814741910323 ≤ 3689348814741910323 := Nat.and_le_right
    unfold p2; omega
  have e2 : p2 3689348814741910323 y1 = (y1 / 4 &&& 3689348814741910323) + (y1 &&& 3689348814741910323) := rfl
  have s2 : (y1 : Int).fdiv (2 ^ (min 2 IntKind.u64.bits)) = ((y1 / 4 : Nat) : Int) := shr_n (a := y1) (b := 2) (by omega)
  have a3 : bitsV (fun _ x y => x &&& y) .u64 ((y1 / 4 : Nat) : Int) 3689348814741910323 = .int .u64 ((y1 / 4 &&& 3689348814741910323 : Nat) : Int) := bv_and (b := 3689348814741910323) (by omega) (by decide)
  have a4 : bitsV (fun _ x y => x &&& y) .u64 (y1 : Int) 3689348814741910323 = .int .u64 ((y1 &&& 3689348814741910323 : Nat) : Int) := bv_and (b := 3689348814741910323) (by omega) (by decide)
  have w2 := wadd_u (by rw [← e2]; omega : (y1 / 4 &&& 3689348814741910323) + (y1 &&& 3689348814741910323) < 2 ^ 64)
  rw [← e2] at w2
  generalize hy2 : p2 3689348814741910323 y1 = y2 at *
  have s3 : (y2 : Int).fdiv (2 ^ (min 4 IntKind.u64.bits)) = ((y2 / 16 : Nat) : Int) := shr_n (a := y2) (b := 4) (by omega)
  have w3 := wadd_u (show y2 / 16 + y2 < 2 ^ 64 by omega)
  have a5 : bitsV (fun _ x y => x &&& y) .u64 ((y2 / 16 + y2 : Nat) : Int) 1085102592571150095 = .int .u64 ((y2 / 16 + y2 &&& 1085102592571150095 : Nat) : Int) := bv_and (b := 1085102592571150095) (by omega) (by decide)
  have b3 : y2 / 16 + y2 &&& 1085102592571150095 ≤ 1085102592571150095 := Nat.and_le_right
  have hy3 : y2 / 16 + y2 &&& 1085102592571150095 = pT 8 x := by rw [← hy2, ← hy1]; rfl
  rw [hy3] at a5 b3
  generalize hy : pT 8 x = y at *
  have s4 : (y : Int).fdiv (2 ^ (min 8 IntKind.u64.bits)) = ((y / 256 : Nat) : Int) := shr_n (a := y) (b := 8) (by omega)
  have w4 := wadd_u (show y + y / 256 < 2 ^ 64 by omega)
  have s5 : ((y + y / 256 : Nat) : Int).fdiv (2 ^ (min 16 IntKind.u64.bits)) = (((y + y / 256) / 65536 : Nat) : Int) := shr_n (a := y + y / 256) (b := 16) (by omega)
  have w5 := wadd_u (show (y + y / 256) + (y + y / 256) / 65536 < 2 ^ 64 by omega)
  have s6 : (((y + y / 256) + (y + y / 256) / 65536 : Nat) : Int).fdiv (2 ^ (min 32 IntKind.u64.bits)) = ((((y + y / 256) + (y + y / 256) / 65536) / 4294967296 : Nat) : Int) := shr_n (a := (y + y / 256) + (y + y / 256) / 65536) (b := 32) (by omega)
  have w6 := wadd_u (show ((y + y / 256) + (y + y / 256) / 65536) + ((y + y / 256) + (y + y / 256) / 65536) / 4294967296 < 2 ^ 64 by omega)
  have hfin : ((y + y / 256) + (y + y / 256) / 65536) + ((y + y / 256) + (y + y / 256) / 65536) / 4294967296 < 2 ^ 63 := by omega
  have hres : (((y + y / 256) + (y + y / 256) / 65536) + ((y + y / 256) + (y + y / 256) / 65536) / 4294967296) &&& 127 = cnt 64 x := by
    rw [← pcf_eq x hx, ← hy]
    exact Nat.and_two_pow_sub_one_eq_mod _ 7
  refine fnc_of tab_ok Tryd.func110 rfl (by kernel_rfl) (by rw [Tryd.ntmps110]; exact Nat.le_add_left 1 _) ?_; rw [Tryd.ntmps110]
  refine qm ?_
  refine hk_region fun K hK => runs_eval tab_ok ?_
  simp only [ev0, evA, evB, evP, fl, gp, tab, simprocAttr, reduceCtorEq, reduceIte]
  refine fin_run trivial (hK _ ?_) <;> clear hK <;> clear K
  refine qa (qm ?_)
  refine hk_region fun K hK => runs_eval tab_ok ?_
  simp only [ev0, evA, evB, evP, fl, gp, tab, simprocAttr, reduceCtorEq, reduceIte, s1, a1, a2, add_u, w1]
  refine fin_run ?_ (hK _ ?_) <;> clear hK <;> clear K
  · (first | exact trivial | omega | (simp only [In64] at *; omega) | (simp [In64] at *; omega) | (simp_all; done) | skip)
  refine qa (qm ?_)
  refine hk_region fun K hK => runs_eval tab_ok ?_
  simp only [ev0, evA, evB, evP, fl, gp, tab, simprocAttr, reduceCtorEq, reduceIte, s2, a3, a4, add_u, w2]
  refine fin_run ?_ (hK _ ?_) <;> clear hK <;> clear K
  · (first | exact trivial | omega | (simp only [In64] at *; omega) | (simp [In64] at *; omega) | (simp_all; done) | skip)
  refine qa (qm ?_)
  refine hk_region fun K hK => runs_eval tab_ok ?_
  simp only [ev0, evA, evB, evP, fl, gp, tab, simprocAttr, reduceCtorEq, reduceIte, s3, add_u, w3, a5]
  refine fin_run ?_ (hK _ ?_) <;> clear hK <;> clear K
  · (first | exact trivial | omega | (simp only [In64] at *; omega) | (simp [In64] at *; omega) | (simp_all; done) | skip)
  refine qa (qm ?_)
  refine hk_region fun K hK => runs_eval tab_ok ?_
  simp only [ev0, evA, evB, evP, fl, gp, tab, simprocAttr, reduceCtorEq, reduceIte, s4, add_u, w4]
  refine fin_run ?_ (hK _ ?_) <;> clear hK <;> clear K
  · (first | exact trivial | omega | (simp only [In64] at *; omega) | (simp [In64] at *; omega) | (simp_all; done) | skip)
  refine qa (qm ?_)
  refine hk_region fun K hK => runs_eval tab_ok ?_
  simp only [ev0, evA, evB, evP, fl, gp, tab, simprocAttr, reduceCtorEq, reduceIte, s5, add_u, w5]
  refine fin_run ?_ (hK _ ?_) <;> clear hK <;> clear K
  · (first | exact trivial | omega | (simp only [In64] at *; omega) | (simp [In64] at *; omega) | (simp_all; done) | skip)
  refine qa (qm ?_)
  refine hk_region fun K hK => runs_eval tab_ok ?_
  simp only [ev0, evA, evB, evP, fl, gp, tab, simprocAttr, reduceCtorEq, reduceIte, s6, add_u, w6]
  refine fin_run ?_ (hK _ ?_) <;> clear hK <;> clear K
  · (first | exact trivial | omega | (simp only [In64] at *; omega) | (simp [In64] at *; omega) | (simp_all; done) | skip)
  refine qa (qm ?_)
  refine hk_region fun K hK => runs_eval tab_ok ?_
  simp only [ev0, evA, evB, evP, fl, gp, tab, simprocAttr, reduceCtorEq, reduceIte, cnv_i hfin, bv_and7 hfin, hres]
  refine fin_run ?_ (hK _ ?_) <;> clear hK <;> clear K
  · (first | exact trivial | omega | (simp only [In64] at *; omega) | (simp [In64] at *; omega) | (simp_all; done) | skip)
  refine qa (qk ?_)
  simp only [Tryd.results110, enA, ev0, evA, evB, evP, fl, gp, tab, simprocAttr, reduceCtorEq, reduceIte]
  all_goals ((first | exact rfl | exact ⟨rfl, rfl⟩ | exact ⟨rfl, rfl, rfl⟩ | exact ⟨trivial, rfl⟩ | exact ⟨Nat.le_refl _, rfl⟩ | trivial | (simp; done)))

/-! ### Lists, compared -/

def cmpi (x y : Int) : Int := if x < y then -1 else if y < x then 1 else 0
def cmpL : List Int → List Int → Int
  | [], [] => 0
  | [], _ :: _ => -1
  | _ :: _, [] => 1
  | x :: v, y :: w => if cmpi x y = 0 then cmpL v w else cmpi x y
theorem isNaN_c (x : Int) : FnC Tryd.prog 147 [.int .i64 x] (.bool false) := by
  refine fnc_of tab_ok Tryd.func147 rfl (by kernel_rfl) (by rw [Tryd.ntmps147]; exact Nat.le_add_left 1 _) ?_; rw [Tryd.ntmps147]
  refine qm ?_
  refine hk_region fun K hK => runs_eval tab_ok ?_
  simp only [ev0, evA, evB, evP, fl, gp, tab, simprocAttr, reduceCtorEq, reduceIte]
  refine fin_run trivial (hK _ ?_) <;> clear hK <;> clear K
  refine qa (qm ?_)
  refine hk_region fun K hK => runs_eval tab_ok ?_
  simp only [ev0, evA, evB, evP, fl, gp, tab, simprocAttr, reduceCtorEq, reduceIte]
  refine fin_run trivial (hK _ ?_) <;> clear hK <;> clear K
  refine qa (qk ?_)
  simp only [Tryd.results147, enA, ev0, evA, evB, evP, fl, gp, tab, simprocAttr, reduceCtorEq, reduceIte]
  all_goals ((first | exact rfl | exact ⟨rfl, rfl⟩ | exact ⟨rfl, rfl, rfl⟩ | exact ⟨trivial, rfl⟩ | exact ⟨Nat.le_refl _, rfl⟩ | trivial | (simp; done)))
theorem compare_c (x y : Int) : FnC Tryd.prog 125 [.int .i64 x, .int .i64 y] (.int .i64 (cmpi x y)) := by
  refine fnc_of tab_ok Tryd.func125 rfl (by kernel_rfl) (by rw [Tryd.ntmps125]; exact Nat.le_add_left 2 _) ?_; rw [Tryd.ntmps125]
  refine qm ?_
  refine hk_region fun K hK => runs_eval tab_ok ?_
  simp only [ev0, evA, evB, evP, fl, gp, tab, simprocAttr, reduceCtorEq, reduceIte]
  refine fin_run trivial (hK _ ?_) <;> clear hK <;> clear K
  refine qa (qm ?_)
  refine hk_region fun K hK => runs_eval tab_ok ?_
  simp only [ev0, evA, evB, evP, fl, gp, tab, simprocAttr, reduceCtorEq, reduceIte]
  refine fin_stop trivial (runs_call (isNaN_c x) rfl rfl rfl (by simp only [dstOk, Nat.reduceLT]) (by repeat (first | exact trivial | constructor)) (runs_eval tab_ok ?_))
  simp only [ev0, evA, evB, evP, fl, gp, tab, simprocAttr, reduceCtorEq, reduceIte]
  refine fin_run trivial (hK _ ?_) <;> clear hK <;> clear K
  refine qa (qm ?_)
  refine hk_region fun K hK => runs_eval tab_ok ?_
  simp only [ev0, evA, evB, evP, fl, gp, tab, simprocAttr, reduceCtorEq, reduceIte]
  refine fin_stop trivial (runs_call (isNaN_c y) rfl rfl rfl (by simp only [dstOk, Nat.reduceLT]) (by repeat (first | exact trivial | constructor)) (runs_eval tab_ok ?_))
  simp only [ev0, evA, evB, evP, fl, gp, tab, simprocAttr, reduceCtorEq, reduceIte]
  refine fin_run trivial (hK _ ?_) <;> clear hK <;> clear K
  refine qa (qm (qm ?_))
  refine hk_region fun K hK => runs_eval tab_ok ?_
  simp only [ev0, evA, evB, evP, fl, gp, tab, simprocAttr, reduceCtorEq, reduceIte]
  refine fin_run trivial (hK _ ?_) <;> clear hK <;> clear K
  refine qa ?_
  refine hk_cond rfl (fun hC1 => ?_) (fun hC1 => ?_)
  · cases hC1
  · (try simp only [nhs] at hC1)
    refine qh (qa (qm (qm ?_)))
    refine hk_region fun K hK => runs_eval tab_ok ?_
    simp only [ev0, evA, evB, evP, fl, gp, tab, simprocAttr, reduceCtorEq, reduceIte]
    refine fin_run trivial (hK _ ?_) <;> clear hK <;> clear K
    refine qa ?_
    refine hk_cond rfl (fun hC3 => ?_) (fun hC3 => ?_)
    · cases hC3
    · (try simp only [nhs] at hC3)
      refine qh (qa (qm (qm ?_)))
      refine hk_region fun K hK => runs_eval tab_ok ?_
      simp only [ev0, evA, evB, evP, fl, gp, tab, simprocAttr, reduceCtorEq, reduceIte]
      refine fin_run trivial (hK _ ?_) <;> clear hK <;> clear K
      refine qa ?_
      refine hk_cond rfl (fun hC4 => ?_) (fun hC4 => ?_)
      · (try simp only [nhs] at hC4)
        refine qm ?_
        refine hk_region fun K hK => runs_eval tab_ok ?_
        simp only [ev0, evA, evB, evP, fl, gp, tab, simprocAttr, reduceCtorEq, reduceIte]
        refine fin_run trivial (hK _ ?_) <;> clear hK <;> clear K
        refine qa (qk (qb ?_))
        simp only [Tryd.results125, enA, ev0, evA, evB, evP, fl, gp, tab, simprocAttr, reduceCtorEq, reduceIte]
        all_goals (unfold cmpi; rw [if_pos hC4])
      · (try simp only [nhs] at hC4)
        refine qh (qa (qm (qm ?_)))
        refine hk_region fun K hK => runs_eval tab_ok ?_
        simp only [ev0, evA, evB, evP, fl, gp, tab, simprocAttr, reduceCtorEq, reduceIte]
        refine fin_run trivial (hK _ ?_) <;> clear hK <;> clear K
        refine qa ?_
        refine hk_cond rfl (fun hC5 => ?_) (fun hC5 => ?_)
        · (try simp only [nhs] at hC5)
          refine qm ?_
          refine hk_region fun K hK => runs_eval tab_ok ?_
          simp only [ev0, evA, evB, evP, fl, gp, tab, simprocAttr, reduceCtorEq, reduceIte]
          refine fin_run trivial (hK _ ?_) <;> clear hK <;> clear K
          refine qa (qk (qb ?_))
          simp only [Tryd.results125, enA, ev0, evA, evB, evP, fl, gp, tab, simprocAttr, reduceCtorEq, reduceIte]
          all_goals (unfold cmpi; rw [if_neg hC4, if_pos hC5])
        · (try simp only [nhs] at hC5)
          refine qh (qa (qm ?_))
          refine hk_region fun K hK => runs_eval tab_ok ?_
          simp only [ev0, evA, evB, evP, fl, gp, tab, simprocAttr, reduceCtorEq, reduceIte]
          refine fin_run trivial (hK _ ?_) <;> clear hK <;> clear K
          refine qa (qk ?_)
          simp only [Tryd.results125, enA, ev0, evA, evB, evP, fl, gp, tab, simprocAttr, reduceCtorEq, reduceIte]
          all_goals (unfold cmpi; rw [if_neg hC4, if_neg hC5])
theorem cmpL_drop {v w : List Int} : ∀ {i : Nat}, (∀ j, j < i → j < v.length → j < w.length ∧ cmpi (v.getD j 0) (w.getD j 0) = 0) → i ≤ v.length → cmpL v w = cmpL (v.drop i) (w.drop i)
  | 0, _, _ => rfl
  | i + 1, h, hi => by
    cases v with
    | nil => simp at hi
    | cons x v =>
      cases w with
      | nil => have := (h 0 (by omega) (by simp)).1; simp at this
      | cons y w =>
        have h0 := (h 0 (by omega) (by simp)).2
        simp at h0
        have ih := cmpL_drop (v := v) (w := w) (i := i) (fun j hj hjv => by
          have := h (j + 1) (by omega) (by simpa using hjv)
          simpa using this) (by simpa using hi)
        simp only [List.drop_succ_cons]
        rw [← ih]
        show (if cmpi x y = 0 then cmpL v w else cmpi x y) = _
        rw [if_pos h0]
theorem drop_getD {v : List Int} {i : Nat} (h : i < v.length) : v.drop i = v.getD i 0 :: v.drop (i + 1) := by
  rw [List.drop_eq_getElem_cons h]
  congr 1
  simp [List.getD, List.getElem?_eq_getElem h]
theorem compareL_c (v w : List Int) (hv : v.length ≤ 1000000000) (hw : w.length ≤ 1000000000) : FnC Tryd.prog 92 [.list (il v), .list (il w)] (.int .i64 (cmpL v w)) := by
  refine fnc_of tab_ok Tryd.func92 rfl (by kernel_rfl) (by rw [Tryd.ntmps92]; exact Nat.le_add_left 2 _) ?_; rw [Tryd.ntmps92]
  refine qm ?_
  refine hk_region fun K hK => runs_eval tab_ok ?_
  simp only [ev0, evA, evB, evP, fl, gp, tab, simprocAttr, reduceCtorEq, reduceIte]
  refine fin_run trivial (hK _ ?_) <;> clear hK <;> clear K
  refine qa (qm (qm ?_))
  refine hk_region fun K hK => runs_eval tab_ok ?_
  simp only [ev0, evA, evB, evP, fl, gp, tab, simprocAttr, reduceCtorEq, reduceIte, il_length]
  refine fin_run trivial (hK _ ?_) <;> clear hK <;> clear K
  refine qa (ql ?_)
  refine hk_loop (ι := Nat) (fun i => ⟨36, [(0, .p (.list (il v))), (1, .p (.list (il w))), (9, .p (.list (il v))), (10, .p (.int .i64 v.length)), (11, .p (.int .i64 i))], []⟩) (fun i => i ≤ v.length ∧ ∀ j, j < i → j < v.length → j < w.length ∧ cmpi (v.getD j 0) (w.getD j 0) = 0) (fun i => v.length - i) 0 ⟨Nat.zero_le _, fun j hj => by omega⟩ [] (by simp only [leq, leA, ev0, evA, evB, evP, fl, gp, tab, simprocAttr, reduceCtorEq, reduceIte] <;> trivial) fun i hi => ?_
  obtain ⟨hi1, hi2⟩ := hi
  have hd := cmpL_drop hi2 hi1
  refine qm ?_
  refine hk_region fun K hK => runs_eval tab_ok ?_
  simp only [ev0, evA, evB, evP, fl, gp, tab, simprocAttr, reduceCtorEq, reduceIte]
  refine fin_run trivial (hK _ ?_) <;> clear hK <;> clear K
  refine qa (qm ?_)
  refine hk_cond rfl (fun hC1 => ?_) (fun hC1 => ?_)
  · (try simp only [nhs] at hC1)
    have hlt : i < v.length := by omega
    have hdv := drop_getD hlt
    refine qh (qa (qm (ql (qm ?_))))
    refine hk_region fun K hK => runs_eval tab_ok ?_
    simp only [ev0, evA, evB, evP, fl, gp, tab, simprocAttr, reduceCtorEq, reduceIte, il_get hlt]
    refine fin_run ?_ (hK _ ?_) <;> clear hK <;> clear K
    · (first | exact trivial | omega | (simp only [In64] at *; omega) | (simp [In64] at *; omega) | (simp_all; done) | skip)
    refine qa (qm (qm ?_))
    refine hk_region fun K hK => runs_eval tab_ok ?_
    simp only [ev0, evA, evB, evP, fl, gp, tab, simprocAttr, reduceCtorEq, reduceIte, il_length]
    refine fin_run trivial (hK _ ?_) <;> clear hK <;> clear K
    refine qa ?_
    refine hk_cond rfl (fun hC2 => ?_) (fun hC2 => ?_)
    · (try simp only [nhs] at hC2)
      refine qm ?_
      refine hk_region fun K hK => runs_eval tab_ok ?_
      simp only [ev0, evA, evB, evP, fl, gp, tab, simprocAttr, reduceCtorEq, reduceIte]
      refine fin_run trivial (hK _ ?_) <;> clear hK <;> clear K
      refine qa (qk (qb (qe (qb (qb (qe (qb ?_)))))))
      simp only [Tryd.results92, enA, ev0, evA, evB, evP, fl, gp, tab, simprocAttr, reduceCtorEq, reduceIte]
      have hdw : w.drop i = [] := List.drop_eq_nil_of_le (by omega)
      rw [hd, hdv, hdw]; rfl
    · (try simp only [nhs] at hC2)
      have hlw : i < w.length := by omega
      have hdw := drop_getD hlw
      refine qh (qa (qm ?_))
      refine hk_region fun K hK => runs_eval tab_ok ?_
      simp only [ev0, evA, evB, evP, fl, gp, tab, simprocAttr, reduceCtorEq, reduceIte, il_get hlw]
      refine fin_run ?_ (hK _ ?_) <;> clear hK <;> clear K
      · (first | exact trivial | omega | (simp only [In64] at *; omega) | (simp [In64] at *; omega) | (simp_all; done) | skip)
      refine qa (qm ?_)
      refine hk_region fun K hK => runs_eval tab_ok ?_
      simp only [ev0, evA, evB, evP, fl, gp, tab, simprocAttr, reduceCtorEq, reduceIte]
      refine fin_stop trivial (runs_call (compare_c (v.getD i 0) (w.getD i 0)) rfl rfl rfl (by simp only [dstOk, Nat.reduceLT]) (by repeat (first | exact trivial | constructor)) (runs_eval tab_ok ?_))
      simp only [ev0, evA, evB, evP, fl, gp, tab, simprocAttr, reduceCtorEq, reduceIte]
      refine fin_run trivial (hK _ ?_) <;> clear hK <;> clear K
      refine qa (qm ?_)
      refine hk_region fun K hK => runs_eval tab_ok ?_
      simp only [ev0, evA, evB, evP, fl, gp, tab, simprocAttr, reduceCtorEq, reduceIte]
      refine fin_run trivial (hK _ ?_) <;> clear hK <;> clear K
      refine qa ?_
      refine hk_cond rfl (fun hC3 => ?_) (fun hC3 => ?_)
      · (try simp only [nhs] at hC3)
        refine qm ?_
        refine hk_region fun K hK => runs_eval tab_ok ?_
        simp only [ev0, evA, evB, evP, fl, gp, tab, simprocAttr, reduceCtorEq, reduceIte]
        refine fin_run trivial (hK _ ?_) <;> clear hK <;> clear K
        refine qa (qk (qe (qb (qb (qe (qb ?_))))))
        simp only [Tryd.results92, enA, ev0, evA, evB, evP, fl, gp, tab, simprocAttr, reduceCtorEq, reduceIte]
        rw [hd, hdv, hdw]
        show _ = if _ then _ else _
        rw [if_neg hC3]
      · (try simp only [nhs] at hC3)
        refine qh (qd (qa ?_))
        refine hk_region fun K hK => runs_eval tab_ok ?_
        simp only [ev0, evA, evB, evP, fl, gp, tab, simprocAttr, reduceCtorEq, reduceIte]
        refine fin_run ?_ (hK _ ?_) <;> clear hK <;> clear K
        · (first | exact trivial | omega | (simp only [In64] at *; omega) | (simp [In64] at *; omega) | (simp_all; done) | skip)
        refine qa ?_
        refine ⟨i + 1, [], ⟨by omega, fun j hj hjv => ?_⟩, by omega, ?_⟩
        · by_cases hji : j = i
          · rw [hji]; exact ⟨hlw, by simpa using hC3⟩
          · exact hi2 j (by omega) hjv
        · simp only [leq, leA, ev0, evA, evB, evP, fl, gp, tab, simprocAttr, reduceCtorEq, reduceIte] <;> omega
  · (try simp only [nhs] at hC1)
    have hin : i = v.length := by omega
    have hdv : v.drop i = [] := List.drop_eq_nil_of_le (by omega)
    refine qj (qc (qc (qf (qa (qm (qm ?_))))))
    refine hk_region fun K hK => runs_eval tab_ok ?_
    simp only [ev0, evA, evB, evP, fl, gp, tab, simprocAttr, reduceCtorEq, reduceIte, il_length]
    refine fin_run trivial (hK _ ?_) <;> clear hK <;> clear K
    refine qa ?_
    refine hk_cond rfl (fun hC4 => ?_) (fun hC4 => ?_)
    · (try simp only [nhs] at hC4)
      refine qm ?_
      refine hk_region fun K hK => runs_eval tab_ok ?_
      simp only [ev0, evA, evB, evP, fl, gp, tab, simprocAttr, reduceCtorEq, reduceIte]
      refine fin_run trivial (hK _ ?_) <;> clear hK <;> clear K
      refine qa (qk (qb ?_))
      simp only [Tryd.results92, enA, ev0, evA, evB, evP, fl, gp, tab, simprocAttr, reduceCtorEq, reduceIte]
      all_goals (rw [hd, hdv, drop_getD (v := w) (i := i) (by omega)]; rfl)
    · (try simp only [nhs] at hC4)
      refine qh (qa (qm ?_))
      refine hk_region fun K hK => runs_eval tab_ok ?_
      simp only [ev0, evA, evB, evP, fl, gp, tab, simprocAttr, reduceCtorEq, reduceIte]
      refine fin_run trivial (hK _ ?_) <;> clear hK <;> clear K
      refine qa (qk ?_)
      simp only [Tryd.results92, enA, ev0, evA, evB, evP, fl, gp, tab, simprocAttr, reduceCtorEq, reduceIte]
      have hdw : w.drop i = [] := by
        refine List.drop_eq_nil_of_le ?_
        omega
      rw [hd, hdv, hdw]; rfl

/-! ### An order -/

theorem cmpi_lt {x y : Int} : cmpi x y < 0 ↔ x < y := by
  unfold cmpi
  by_cases h1 : x < y
  · simp [h1]
  · by_cases h2 : y < x <;> simp [h1, h2]
theorem cmpi_eq {x y : Int} : cmpi x y = 0 ↔ x = y := by
  unfold cmpi
  by_cases h1 : x < y
  · simp [h1]; omega
  · by_cases h2 : y < x
    · simp [h1, h2]; omega
    · simp [h1, h2]; omega
theorem cmpL_self : ∀ v : List Int, cmpL v v = 0
  | [] => rfl
  | x :: v => by show (if cmpi x x = 0 then cmpL v v else cmpi x x) = 0; rw [if_pos (cmpi_eq.2 rfl)]; exact cmpL_self v
theorem cmpL_cons_lt {x y : Int} {v w : List Int} : cmpL (x :: v) (y :: w) < 0 ↔ x < y ∨ x = y ∧ cmpL v w < 0 := by
  show (if cmpi x y = 0 then cmpL v w else cmpi x y) < 0 ↔ _
  by_cases h : cmpi x y = 0
  · rw [if_pos h]
    have := cmpi_eq.1 h
    constructor
    · exact fun h2 => .inr ⟨this, h2⟩
    · rintro (h2 | h2)
      · omega
      · exact h2.2
  · rw [if_neg h, cmpi_lt]
    have : ¬ x = y := fun e => h (cmpi_eq.2 e)
    constructor
    · exact fun h2 => .inl h2
    · rintro (h2 | h2)
      · exact h2
      · exact absurd h2.1 this
theorem cmpL_tot : ∀ v w : List Int, ¬ cmpL v w < 0 → ¬ cmpL w v < 0 → v = w
  | [], [], _, _ => rfl
  | [], _ :: _, h, _ => absurd (show (-1 : Int) < 0 by omega) h
  | _ :: _, [], _, h => absurd (show (-1 : Int) < 0 by omega) h
  | x :: v, y :: w, h1, h2 => by
    rw [cmpL_cons_lt] at h1 h2
    have hxy : x = y := by omega
    subst hxy
    rw [cmpL_tot v w (fun h => h1 (.inr ⟨rfl, h⟩)) (fun h => h2 (.inr ⟨rfl, h⟩))]
theorem cmpL_trans : ∀ u v w : List Int, cmpL u v < 0 → cmpL v w < 0 → cmpL u w < 0
  | [], [], _, h, _ => absurd h (by simp [cmpL])
  | [], _ :: _, [], _, h => absurd h (by simp [cmpL])
  | [], _ :: _, _ :: _, _, _ => by simp [cmpL]
  | _ :: _, [], _, h, _ => absurd h (by simp [cmpL])
  | _ :: _, _ :: _, [], _, h => absurd h (by simp [cmpL])
  | x :: u, y :: v, z :: w, h1, h2 => by
    rw [cmpL_cons_lt] at h1 h2 ⊢
    rcases h1 with h1 | ⟨rfl, h1⟩
    · rcases h2 with h2 | ⟨rfl, h2⟩
      · exact .inl (by omega)
      · exact .inl h1
    · rcases h2 with h2 | ⟨rfl, h2⟩
      · exact .inl h2
      · exact .inr ⟨rfl, cmpL_trans u v w h1 h2⟩
theorem cmpL_ntrans (u v w : List Int) (h1 : ¬ cmpL u v < 0) (h2 : ¬ cmpL v w < 0) : ¬ cmpL u w < 0 := fun h => by
  by_cases h3 : cmpL v u < 0
  · exact h2 (cmpL_trans _ _ _ h3 h)
  · rw [cmpL_tot _ _ h1 h3] at h; exact h2 h

/-- Sets: by how many, then by lists. -/
def cmpS (a b : List Int) : Int := if (a.length : Int) - (b.length : Int) = 0 then cmpL a b else (a.length : Int) - (b.length : Int)
theorem cmpS_lt {a b : List Int} : cmpS a b < 0 ↔ a.length < b.length ∨ a.length = b.length ∧ cmpL a b < 0 := by
  unfold cmpS
  by_cases h : (a.length : Int) - (b.length : Int) = 0
  · rw [if_pos h]; constructor
    · exact fun h2 => .inr ⟨by omega, h2⟩
    · rintro (h2 | h2)
      · omega
      · exact h2.2
  · rw [if_neg h]; omega
theorem cmpS_tot (v w : List Int) (h1 : ¬ cmpS v w < 0) (h2 : ¬ cmpS w v < 0) : v = w := by
  rw [cmpS_lt] at h1 h2
  exact cmpL_tot v w (fun h => h1 (.inr ⟨by omega, h⟩)) (fun h => h2 (.inr ⟨by omega, h⟩))
theorem cmpS_trans (u v w : List Int) (h1 : cmpS u v < 0) (h2 : cmpS v w < 0) : cmpS u w < 0 := by
  rw [cmpS_lt] at h1 h2 ⊢
  rcases h1 with h1 | ⟨e1, h1⟩
  · exact .inl (by omega)
  · rcases h2 with h2 | ⟨e2, h2⟩
    · exact .inl (by omega)
    · exact .inr ⟨by omega, cmpL_trans u v w h1 h2⟩
theorem cmpS_self (v : List Int) : ¬ cmpS v v < 0 := by
  rw [cmpS_lt, cmpL_self]; omega
theorem cmpS_ntrans (u v w : List Int) (h1 : ¬ cmpS u v < 0) (h2 : ¬ cmpS v w < 0) : ¬ cmpS u w < 0 := fun h => by
  by_cases h3 : cmpS v u < 0
  · exact h2 (cmpS_trans _ _ _ h3 h)
  · rw [cmpS_tot _ _ h1 h3] at h; exact h2 h
theorem cnt_stl (x : Nat) : cnt 64 x = (stl x).length := by unfold stl; rw [thl_len]; rfl
theorem allOf1_c (x y : Nat) (hx : x < 2 ^ 64) (hy : y < 2 ^ 64) : FnC Tryd.prog 109 [.int .u64 x, .int .u64 y] (.int .i64 (cmpS (stl x) (stl y))) := by
  have l1 := stl_len x
  have l2 := stl_len y
  refine fnc_of tab_ok Tryd.func109 rfl (by kernel_rfl) (by rw [Tryd.ntmps109]; exact Nat.le_add_left 2 _) ?_; rw [Tryd.ntmps109]
  refine qm ?_
  refine hk_region fun K hK => runs_eval tab_ok ?_
  simp only [ev0, evA, evB, evP, fl, gp, tab, simprocAttr, reduceCtorEq, reduceIte]
  refine fin_run trivial (hK _ ?_) <;> clear hK <;> clear K
  refine qa (qm (qm ?_))
  refine hk_region fun K hK => runs_eval tab_ok ?_
  simp only [ev0, evA, evB, evP, fl, gp, tab, simprocAttr, reduceCtorEq, reduceIte, cnt_stl]
  refine fin_stop trivial (runs_call (ones_c x hx) rfl rfl rfl (by simp only [dstOk, Nat.reduceLT]) (by repeat (first | exact trivial | constructor)) (runs_eval tab_ok ?_))
  simp only [ev0, evA, evB, evP, fl, gp, tab, simprocAttr, reduceCtorEq, reduceIte, cnt_stl]
  refine fin_stop trivial (runs_call (ones_c y hy) rfl rfl rfl (by simp only [dstOk, Nat.reduceLT]) (by repeat (first | exact trivial | constructor)) (runs_eval tab_ok ?_))
  simp only [ev0, evA, evB, evP, fl, gp, tab, simprocAttr, reduceCtorEq, reduceIte, cnt_stl]
  refine fin_run ?_ (hK _ ?_) <;> clear hK <;> clear K
  · (first | exact trivial | omega | (simp only [In64] at *; omega) | (simp [In64] at *; omega) | (simp_all; done) | skip)
  refine qa (qm ?_)
  refine hk_region fun K hK => runs_eval tab_ok ?_
  simp only [ev0, evA, evB, evP, fl, gp, tab, simprocAttr, reduceCtorEq, reduceIte]
  refine fin_run trivial (hK _ ?_) <;> clear hK <;> clear K
  refine qa ?_
  refine hk_cond rfl (fun hC1 => ?_) (fun hC1 => ?_)
  · (try simp only [nhs] at hC1)
    refine qm ?_
    refine hk_region fun K hK => runs_eval tab_ok ?_
    simp only [ev0, evA, evB, evP, fl, gp, tab, simprocAttr, reduceCtorEq, reduceIte]
    refine fin_run trivial (hK _ ?_) <;> clear hK <;> clear K
    refine qa (qk (qb ?_))
    simp only [Tryd.results109, enA, ev0, evA, evB, evP, fl, gp, tab, simprocAttr, reduceCtorEq, reduceIte]
    all_goals (unfold cmpS; rw [if_neg hC1])
  · (try simp only [nhs] at hC1)
    refine qh (qa (qm ?_))
    refine hk_region fun K hK => runs_eval tab_ok ?_
    simp only [ev0, evA, evB, evP, fl, gp, tab, simprocAttr, reduceCtorEq, reduceIte]
    refine fin_stop trivial (runs_call (list_s x hx) rfl rfl rfl (by simp only [dstOk, Nat.reduceLT]) (by repeat (first | exact trivial | constructor)) (runs_eval tab_ok ?_))
    simp only [ev0, evA, evB, evP, fl, gp, tab, simprocAttr, reduceCtorEq, reduceIte]
    refine fin_stop trivial (runs_call (list_s y hy) rfl rfl rfl (by simp only [dstOk, Nat.reduceLT]) (by repeat (first | exact trivial | constructor)) (runs_eval tab_ok ?_))
    simp only [ev0, evA, evB, evP, fl, gp, tab, simprocAttr, reduceCtorEq, reduceIte]
    refine fin_stop trivial (runs_call (compareL_c (stl x) (stl y) (by omega) (by omega)) rfl rfl rfl (by simp only [dstOk, Nat.reduceLT]) (by repeat (first | exact trivial | constructor)) (runs_eval tab_ok ?_))
    simp only [ev0, evA, evB, evP, fl, gp, tab, simprocAttr, reduceCtorEq, reduceIte]
    refine fin_run trivial (hK _ ?_) <;> clear hK <;> clear K
    refine qa (qk ?_)
    simp only [Tryd.results109, enA, ev0, evA, evB, evP, fl, gp, tab, simprocAttr, reduceCtorEq, reduceIte]
    all_goals (unfold cmpS; rw [if_pos (by omega)])
end Go.Proofs.YtjikchbmkodgfaaDoor
