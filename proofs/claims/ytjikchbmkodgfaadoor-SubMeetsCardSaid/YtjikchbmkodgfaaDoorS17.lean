/-
  All subgroups, as the program has them: AllOf, All, Frattini. Conditions: none.
-/
import Derived.Test.YtjikchbmkodgfaaDoorG28
import Derived.Test.YtjikchbmkodgfaaDoorS13
import Derived.Test.YtjikchbmkodgfaaDoorSF1
import Derived.Test.YtjikchbmkodgfaaDoorSFL
set_option linter.all false
namespace Go.Proofs.YtjikchbmkodgfaaDoor
open Go.Pv

def ul (L : List Nat) : List PV := L.map fun (x : Nat) => PV.int .u64 (x : Int)
theorem ul_length (L : List Nat) : (ul L).length = L.length := by simp [ul]
theorem ul_get {L : List Nat} {i : Nat} (h : i < L.length) : (ul L).getD i default = .int .u64 ((L.getD i 0 : Nat) : Int) := by
  simp [ul, List.getD, List.getElem?_eq_getElem h]
theorem oul_get {L : List Nat} {i : Nat} (h : i < L.length) (d : AV) : (opl (ul L)).getD i d = .p (.int .u64 ((L.getD i 0 : Nat) : Int)) := by
  simp [opl, ul, List.getD, List.getElem?_eq_getElem h]
theorem ul_one (L : List Nat) : ∀ x ∈ ul L, x.one = true := fun x hx => by
  obtain ⟨y, _, rfl⟩ := List.mem_map.1 hx; rfl
theorem ul_all (L : List Nat) : (ul L).all PV.one = true := List.all_eq_true.2 (ul_one L)
theorem oul_ok (L : List Nat) : (opl (ul L)).all cellOk = true := opl_ok (ul_all L)
theorem ul_snoc (L : List Nat) (x : Nat) : ul L ++ [.int .u64 (x : Int)] = ul (L ++ [x]) := by simp [ul]
theorem oul_snoc (L : List Nat) (x : Nat) : opl (ul L) ++ [.p (.int .u64 (x : Int))] = opl (ul (L ++ [x])) := by simp [ul, opl]
theorem oul_take (L : List Nat) : (opl (ul L)).take L.length = opl (ul L) := List.take_of_length_le (by rw [opl_length, ul_length]; exact Nat.le_refl _)
theorem ul_cells (L : List Nat) : (ul L).all (fun x => x.cells.length == 1) = true := by simp [ul, PV.cells]

/-- Keys. -/
def kl (L : List Nat) : List Int := L.map fun (x : Nat) => (x : Int)
theorem mem_kl {L : List Nat} {x : Nat} : (x : Int) ∈ kl L ↔ x ∈ L := by
  unfold kl
  rw [List.mem_map]
  constructor
  · rintro ⟨y, hy, he⟩
    have : y = x := by omega
    rwa [this] at hy
  · exact fun h => ⟨x, h, rfl⟩
theorem kl_snoc (L : List Nat) (x : Nat) : kl (L ++ [x]) = kl L ++ [(x : Int)] := by simp [kl]
def tt : Int → PV := fun _ => .bool true

def cfA : PV → PV → Int
  | .int _ x, .int _ y => cmpS (stl x.toNat) (stl y.toNat)
  | _, _ => 0
theorem cfA_ul (x y : Nat) : cfA (.int .u64 (x : Int)) (.int .u64 (y : Int)) = cmpS (stl x) (stl y) := rfl

theorem getD_snoc {L : List Nat} {x j : Nat} (hj : j < L.length) : (L ++ [x]).getD j 0 = L.getD j 0 := by
  rw [List.getD_eq_getElem?_getD, List.getElem?_append_left hj, ← List.getD_eq_getElem?_getD]
theorem getD_memN {L : List Nat} {j : Nat} (hj : j < L.length) : L.getD j 0 ∈ L := by
  rw [List.getD_eq_getElem?_getD, List.getElem?_eq_getElem hj]; exact List.getElem_mem hj
theorem mem_getDN {L : List Nat} {x : Nat} (hx : x ∈ L) : ∃ j, j < L.length ∧ L.getD j 0 = x := by
  obtain ⟨j, hj, rfl⟩ := List.getElem_of_mem hx
  exact ⟨j, hj, by rw [List.getD_eq_getElem?_getD, List.getElem?_eq_getElem hj]; rfl⟩

section
variable {n e : Nat} {m : List Int}

/-- Where the search stands: at row i, things below a are done. -/
structure Srch (n : Nat) (f : Nat → Nat → Nat) (e : Nat) (i : Nat) (L : List Nat) : Prop where
  inv : AllI n f e L
  done : ∀ j, j < i → ∀ a, a < n → Dn n f e (L.getD j 0) a L

set_option maxHeartbeats 4000000 in
set_option maxRecDepth 100000 in
theorem allOf_c (h : GT n m n e) (hn : n ≤ 24) {SL : List Nat} (hS : AllS n (op m n) e SL) : FnC Tryd.prog 67 [gp n m] (.list (ul SL)) := by
  have G := h.2.2
  have hb := h.2.1.big
  have hbt : ∀ p, bo n p < 2 ^ 64 := fun p => bo_lt64 hb p
  have h24 : 2 ^ n ≤ 16777216 := Nat.le_trans (Nat.pow_le_pow_right (by omega) hn) (by decide)
  have hd0 := mpd_set [] ((bo n (onp e) : Nat) : Int)
  have hv0 := mpv_set [] ((bo n (onp e) : Nat) : Int) tt
  rw [← mpd_nil] at hd0
  rw [← mpv_nil] at hv0
  have hk0 : kl [bo n (onp e)] = [] ++ [((bo n (onp e) : Nat) : Int)] := rfl
  refine fnc_of tab_ok Tryd.func67 rfl (by kernel_rfl) (by rw [Tryd.ntmps67]; exact Nat.le_add_left 1 _) ?_; rw [Tryd.ntmps67]
  refine qm ?_
  refine hk_region fun K hK => runs_eval tab_ok ?_
  simp only [ev0, evA, evB, evP, fl, gp, tab, simprocAttr, reduceCtorEq, reduceIte]
  refine fin_run ?_ (hK _ ?_) <;> clear hK <;> clear K
  · (first | exact trivial | omega | (simp only [In64] at *; omega) | (simp [In64] at *; omega) | (simp_all; done) | skip)
  refine qa (qm ?_)
  refine hk_region fun K hK => runs_eval tab_ok ?_
  simp only [ev0, evA, evB, evP, fl, gp, tab, simprocAttr, reduceCtorEq, reduceIte]
  refine fin_stop trivial (runs_call (grow_c h 0 (Nat.pow_pos (by omega)) (onp e) onp_gen) rfl rfl rfl (by simp only [dstOk, Nat.reduceLT]) (by repeat (first | exact trivial | constructor)) (runs_op (buildOwn_does (n := 1) (l := [.int .u64 ((bo n (onp e) : Nat) : Int)]) tab_ok rfl rfl rfl rfl rfl rfl rfl ⟨⟨rfl, rfl, rfl⟩, trivial⟩ rfl (by decide) rfl) rfl (show (10 : Nat) < 56 by decide) (runs_eval tab_ok ?_)))
  simp only [ev0, evA, evB, evP, fl, gp, tab, simprocAttr, reduceCtorEq, reduceIte]
  refine fin_run ?_ (hK _ ?_) <;> clear hK <;> clear K
  · trivial
  refine qa (qm ?_)
  refine hk_region fun K hK => runs_eval tab_ok ?_
  simp only [ev0, evA, evB, evP, fl, gp, tab, simprocAttr, reduceCtorEq, reduceIte, (show ∀ d : AV, (opl [PV.int .u64 ((bo n (onp e) : Nat) : Int)]).getD 0 d = .p (.int .u64 ((bo n (onp e) : Nat) : Int)) from fun _ => rfl)]
  refine fin_stop ?_ (runs_op (insert_does tab_ok rfl rfl rfl (by exact ⟨rfl, rfl⟩)) rfl (by simp only [dstOk, Nat.reduceLT]) (runs_eval tab_ok ?_))
  · (first | exact trivial | omega | (simp only [In64] at *; omega) | (simp [In64] at *; omega) | (simp_all; done) | skip)
  simp only [ev0, evA, evB, evP, fl, gp, tab, simprocAttr, reduceCtorEq, reduceIte, (show ∀ d : AV, (opl [PV.int .u64 ((bo n (onp e) : Nat) : Int)]).getD 0 d = .p (.int .u64 ((bo n (onp e) : Nat) : Int)) from fun _ => rfl)]
  refine fin_run ?_ (hK _ ?_) <;> clear hK <;> clear K
  · (first | exact trivial | omega | (simp only [In64] at *; omega) | (simp [In64] at *; omega) | (simp_all; done) | skip)
  refine qa (qm (qm ?_))
  refine hk_region fun K hK => runs_eval tab_ok ?_
  simp only [ev0, evA, evB, evP, fl, gp, tab, simprocAttr, reduceCtorEq, reduceIte]
  refine fin_run trivial (hK _ ?_) <;> clear hK <;> clear K
  refine qa (ql ?_)
  refine hk_loop (ι := Nat × List Nat) (fun p => ⟨56, [(1, .ptr 0 0), (3, .sl 1 0 p.2.length), (4, .mptr 2), (5, .p (.int .i64 p.1))], [.own [.p (.int .i64 n), .p (.list (il m))], .own (opl (ul p.2)), .mp .u64 (mpd (kl p.2)) (mpv (kl p.2) tt)]⟩) (fun p => p.1 ≤ p.2.length ∧ Srch n (op m n) e p.1 p.2) (fun p => 2 ^ n - p.1) (0, [bo n (onp e)]) ⟨Nat.zero_le _, ⟨by simp, fun x hx => by rw [List.mem_singleton] at hx; exact ⟨_, G.onp_sub, hx⟩, by simp⟩, fun j hj => by omega⟩ [0, 1, 2] (by simp only [hk0, ← hd0, ← hv0]; simp only [leq, leA, ev0, evA, evB, evP, fl, gp, tab, simprocAttr, reduceCtorEq, reduceIte] <;> first | trivial | exact ⟨rfl, rfl⟩ | rfl) fun p hp => ?_
  obtain ⟨i, L⟩ := p
  obtain ⟨hi, hI, hD⟩ := hp
  simp only at hi hI hD
  have hLn := hI.len
  refine qm (qm ?_)
  refine hk_region fun K hK => runs_eval tab_ok ?_
  simp only [ev0, evA, evB, evP, fl, gp, tab, simprocAttr, reduceCtorEq, reduceIte]
  refine fin_run trivial (hK _ ?_) <;> clear hK <;> clear K
  refine qa ?_
  refine hk_cond rfl (fun hC1 => ?_) (fun hC1 => ?_)
  · (try simp only [nhs] at hC1)
    have hlt : i < L.length := by omega
    have hxm := getD_memN hlt
    obtain ⟨p, hp, hx⟩ := hI.subs _ hxm
    refine qh (qa (qm (ql (qm ?_))))
    refine hk_region fun K hK => runs_eval tab_ok ?_
    simp only [ev0, evA, evB, evP, fl, gp, tab, simprocAttr, reduceCtorEq, reduceIte]
    refine fin_run ?_ (hK _ ?_) <;> clear hK <;> clear K
    · (first | exact trivial | omega | (simp only [In64] at *; omega) | (simp [In64] at *; omega) | (simp_all; done) | skip)
    refine qa (ql ?_)
    refine hk_loop (ι := Nat × List Nat) (fun q => ⟨56, [(1, .ptr 0 0), (3, .sl 1 0 q.2.length), (4, .mptr 2), (5, .p (.int .i64 i)), (23, .p (.int .i64 n)), (24, .p (.int .i64 q.1))], [.own [.p (.int .i64 n), .p (.list (il m))], .own (opl (ul q.2)), .mp .u64 (mpd (kl q.2)) (mpv (kl q.2) tt)]⟩) (fun q => q.1 ≤ n ∧ i < q.2.length ∧ q.2.getD i 0 = bo n p ∧ Srch n (op m n) e i q.2 ∧ ∀ b, b < q.1 → Dn n (op m n) e (bo n p) b q.2) (fun q => n - q.1) (0, L) ⟨Nat.zero_le _, hlt, hx, ⟨hI, hD⟩, fun b hb => by omega⟩ [0, 1, 2] (by simp only [leq, leA, ev0, evA, evB, evP, fl, gp, tab, simprocAttr, reduceCtorEq, reduceIte] <;> trivial) fun q hq => ?_
    obtain ⟨a, M⟩ := q
    obtain ⟨ha, hiM, hxM, ⟨hIM, hDM⟩, hdone⟩ := hq
    simp only at ha hiM hxM hIM hDM hdone
    have hMn := hIM.len
    refine qm ?_
    refine hk_region fun K hK => runs_eval tab_ok ?_
    simp only [ev0, evA, evB, evP, fl, gp, tab, simprocAttr, reduceCtorEq, reduceIte]
    refine fin_run trivial (hK _ ?_) <;> clear hK <;> clear K
    refine qa (qm ?_)
    refine hk_cond rfl (fun hC2 => ?_) (fun hC2 => ?_)
    · (try simp only [nhs] at hC2)
      have hal : a < n := by omega
      have hbit : (bo n p).testBit a = p a := by rw [bo_bit]; simp [hal]
      refine qh (qa (qm (ql (qm ?_))))
      refine hk_region fun K hK => runs_eval tab_ok ?_
      simp only [ev0, evA, evB, evP, fl, gp, tab, simprocAttr, reduceCtorEq, reduceIte]
      refine fin_run trivial (hK _ ?_) <;> clear hK <;> clear K
      refine qa (qm (qm ?_))
      refine hk_region fun K hK => runs_eval tab_ok ?_
      simp only [ev0, evA, evB, evP, fl, gp, tab, simprocAttr, reduceCtorEq, reduceIte, oul_get hiM, hxM, ul_length]
      refine fin_stop ?_ (runs_call (has_s (bo n p) a (hbt _) (by omega)) rfl rfl rfl (by simp only [dstOk, Nat.reduceLT]) (by repeat (first | exact trivial | constructor)) (runs_eval tab_ok ?_))
      · (first | exact trivial | omega | (simp only [In64] at *; omega) | (simp [In64] at *; omega) | (simp_all; done) | skip)
      simp only [ev0, evA, evB, evP, fl, gp, tab, simprocAttr, reduceCtorEq, reduceIte, hbit, oul_get hiM, hxM, ul_length]
      refine fin_run ?_ (hK _ ?_) <;> clear hK <;> clear K
      · (first | exact trivial | omega | (simp only [In64] at *; omega) | (simp [In64] at *; omega) | (simp_all; done) | skip)
      refine qa ?_
      refine hk_cond rfl (fun hC3 => ?_) (fun hC3 => ?_)
      · (try simp only [nhs] at hC3)
        have hdn : Dn n (op m n) e (bo n p) a M := fun q hq => by
          have : bo n q = bo n p := bo_congr fun y hy => by
            rw [Bool.eq_iff_iff, hq y hy, hp.gen G hy]
            constructor
            · exact fun hg => (hg.sub G hp fun b hb2 hw => by
                unfold wta at hw
                rw [bo_bit, Bool.or_eq_true, Bool.and_eq_true, decide_eq_true_eq, decide_eq_true_eq] at hw
                rcases hw with hw | hw
                · exact hw.2
                · rw [hw]; exact hC3) |> (hp.gen G hy).1
            · exact fun hg => Gen.mono (fun b hb2 hw => by unfold wta; rw [bo_bit]; simp [hb2, hw]) hg
          rw [this, ← hxM]; exact getD_memN hiM
        refine qj (qc (qf (qa ?_)))
        refine hk_region fun K hK => runs_eval tab_ok ?_
        simp only [ev0, evA, evB, evP, fl, gp, tab, simprocAttr, reduceCtorEq, reduceIte]
        refine fin_run ?_ (hK _ ?_) <;> clear hK <;> clear K
        · (first | exact trivial | omega | (simp only [In64] at *; omega) | (simp [In64] at *; omega) | (simp_all; done) | skip)
        refine qa ?_
        refine ⟨(a + 1, M), [0, 1, 2], ⟨show a + 1 ≤ n by omega, hiM, hxM, ⟨hIM, hDM⟩, fun b hb => ?_⟩, show n - (a + 1) < n - a by omega, ?_⟩
        · by_cases hba : b = a
          · rw [hba]; exact hdn
          · exact hdone b (by have : b < a + 1 := hb
                              omega)
        · simp only [leq, leA, ev0, evA, evB, evP, fl, gp, tab, simprocAttr, reduceCtorEq, reduceIte] <;> omega
      · (try simp only [nhs] at hC3)
        have hpw := pow_lt64 (b := a) (by omega)
        have hw := bo_wta p hal
        obtain ⟨q, hq⟩ := gen_ex n (op m n) e (wta p a)
        have hqs := gen_sub G hq
        have hdq : ∀ M', bo n q ∈ M' → Dn n (op m n) e (bo n p) a M' := fun M' hm r hr => by
          have : bo n r = bo n q := bo_congr fun y hy => by
            rw [Bool.eq_iff_iff, hr y hy, hq y hy]
            refine ⟨fun hg => Gen.mono (fun b hb2 hw => ?_) hg, fun hg => Gen.mono (fun b hb2 hw => ?_) hg⟩
            · unfold wta at hw ⊢; rw [bo_bit] at hw; simpa [hb2] using hw
            · unfold wta at hw ⊢; rw [bo_bit]; simpa [hb2] using hw
          rw [this]; exact hm
        refine qh (qa (qm ?_))
        refine hk_draw mixed (by kernel_rfl) fun K hK => runs_eval tab_ok ?_
        simp only [ev0, evA, evB, evP, fl, gp, tab, simprocAttr, reduceCtorEq, reduceIte, oul_get hiM, hxM, ul_length, shl_one (show a < 64 by omega), bv_or (hbt p) hpw, hw]
        refine fin_stop ?_ (runs_call (grow_c h (bo n (wta p a)) (bo_lt n _) q (fun b hb2 => by rw [gen_bo]; exact hq b hb2)) rfl rfl rfl (by simp only [dstOk, Nat.reduceLT]) (by repeat (first | exact trivial | constructor)) (runs_eval tab_ok ?_))
        · (first | exact trivial | omega | (simp only [In64] at *; omega) | (simp [In64] at *; omega) | (simp_all; done) | skip)
        simp only [ev0, evA, evB, evP, fl, gp, tab, simprocAttr, reduceCtorEq, reduceIte, oul_get hiM, hxM, ul_length, shl_one (show a < 64 by omega), bv_or (hbt p) hpw, hw]
        refine fin_run ?_ (hK _ ?_) <;> clear hK <;> clear K
        · (first | exact trivial | omega | (simp only [In64] at *; omega) | (simp [In64] at *; omega) | (simp_all; done) | skip)
        refine qa (qm ?_)
        by_cases hin : bo n q ∈ M
        · have hkin := mpd_in (mem_kl.2 hin)
          have hvin := mpv_in tt (mem_kl.2 hin)
          refine hk_region fun K hK => runs_eval tab_ok ?_
          simp only [ev0, evA, evB, evP, fl, gp, tab, simprocAttr, reduceCtorEq, reduceIte, hkin, hvin, cond_true, (show tt ((bo n q : Nat) : Int) = .bool true from rfl)]
          refine fin_run ?_ (hK _ ?_) <;> clear hK <;> clear K
          · (first | exact trivial | omega | (simp only [In64] at *; omega) | (simp [In64] at *; omega) | (simp_all; done) | skip)
          refine qa ?_
          refine hk_cond rfl (fun hC4 => ?_) (fun hC4 => ?_)
          · cases hC4
          · (try simp only [nhs] at hC4)
            refine qh (qd (qa ?_))
            refine hk_region fun K hK => runs_eval tab_ok ?_
            simp only [ev0, evA, evB, evP, fl, gp, tab, simprocAttr, reduceCtorEq, reduceIte]
            refine fin_run ?_ (hK _ ?_) <;> clear hK <;> clear K
            · (first | exact trivial | omega | (simp only [In64] at *; omega) | (simp [In64] at *; omega) | (simp_all; done) | skip)
            refine qa ?_
            refine ⟨(a + 1, M), [0, 1, 2], ⟨show a + 1 ≤ n by omega, hiM, hxM, ⟨hIM, hDM⟩, fun b hb => ?_⟩, show n - (a + 1) < n - a by omega, ?_⟩
            · by_cases hba : b = a
              · rw [hba]; exact hdq M hin
              · exact hdone b (by have : b < a + 1 := hb
                                  omega)
            · simp only [leq, leA, ev0, evA, evB, evP, fl, gp, tab, simprocAttr, reduceCtorEq, reduceIte] <;> omega
        · have hkin : mpd (kl M) ((bo n q : Nat) : Int) = false := decide_eq_false fun hh => hin (mem_kl.1 hh)
          refine hk_region fun K hK => runs_eval tab_ok ?_
          simp only [ev0, evA, evB, evP, fl, gp, tab, simprocAttr, reduceCtorEq, reduceIte, hkin, cond_false]
          refine fin_run ?_ (hK _ ?_) <;> clear hK <;> clear K
          · (first | exact trivial | omega | (simp only [In64] at *; omega) | (simp [In64] at *; omega) | (simp_all; done) | skip)
          refine qa ?_
          refine hk_cond rfl (fun hC4 => ?_) (fun hC4 => ?_)
          · (try simp only [nhs] at hC4)
            have hMl : (ul M).length = M.length := ul_length M
            have hd1 : (fun u => decide (u = ((bo n q : Nat) : Int)) || mpd (kl M) u) = mpd (kl (M ++ [bo n q])) := by rw [kl_snoc]; exact mpd_set _ _
            have hv1 : (fun u => bif decide (u = ((bo n q : Nat) : Int)) then PV.bool true else mpv (kl M) tt u) = mpv (kl (M ++ [bo n q])) tt := by rw [kl_snoc]; exact mpv_set (kl M) _ tt
            have hsub : ∀ y ∈ M, y ∈ M ++ [bo n q] := fun y hy => by simp [hy]
            have htk : List.take M.length (ul M) = ul M := List.take_of_length_le (by rw [ul_length]; exact Nat.le_refl _)
            refine qm ?_
            refine hk_region fun K hK => runs_eval tab_ok ?_
            simp only [ev0, evA, evB, evP, fl, gp, tab, simprocAttr, reduceCtorEq, reduceIte]
            refine fin_run ?_ (hK _ ?_) <;> clear hK <;> clear K
            · (first | exact trivial | omega | (simp only [In64] at *; omega) | (simp [In64] at *; omega) | (simp_all; done) | skip)
            refine qa ?_
            refine hk_region fun K hK => runs_eval tab_ok ?_
            simp only [ev0, evA, evB, evP, fl, gp, tab, simprocAttr, reduceCtorEq, reduceIte, oul_take, oul_snoc, oul_ok, ul_length, htk]
            refine fin_run ?_ (hK _ ?_) <;> clear hK <;> clear K
            · simp [cellOk, PV.one, ul_length]
              omega
            refine qd (qa ?_)
            refine hk_region fun K hK => runs_eval tab_ok ?_
            simp only [ev0, evA, evB, evP, fl, gp, tab, simprocAttr, reduceCtorEq, reduceIte]
            refine fin_run ?_ (hK _ ?_) <;> clear hK <;> clear K
            · (first | exact trivial | omega | (simp only [In64] at *; omega) | (simp [In64] at *; omega) | (simp_all; done) | skip)
            refine qa ?_
            refine ⟨(a + 1, M ++ [bo n q]), [0, 3, 2], ⟨show a + 1 ≤ n by omega, by simp only [List.length_append, List.length_singleton]; omega, by rw [getD_snoc hiM]; exact hxM, ⟨⟨?_, ?_, by simp [hIM.one]⟩, fun j hj b hb => ?_⟩, fun b hb => ?_⟩, show n - (a + 1) < n - a by omega, ?_⟩
            · exact List.nodup_append.2 ⟨hIM.nodup, by simp, fun x hx y hy he => by rw [List.mem_singleton] at hy; rw [he, hy] at hx; exact hin hx⟩
            · intro x hx
              rcases List.mem_append.1 hx with hx | hx
              · exact hIM.subs x hx
              · rw [List.mem_singleton] at hx; exact ⟨q, hqs, hx⟩
            · rw [getD_snoc (by omega)]; exact (hDM j hj b hb).mono hsub
            · by_cases hba : b = a
              · rw [hba]; exact hdq _ (by simp)
              · exact (hdone b (by have : b < a + 1 := hb
                                   omega)).mono hsub
            · simp only [← hd1, ← hv1]
              simp only [leq, leA, ev0, evA, evB, evP, fl, gp, tab, simprocAttr, reduceCtorEq, reduceIte] <;> first | trivial | omega | (simp only [List.length_append, List.length_singleton]; omega) | exact ⟨rfl, rfl⟩ | (rw [ul_snoc, List.take_length])
          · cases hC4
    · (try simp only [nhs] at hC2)
      have han : a = n := by omega
      refine qj (qc (qc (qf (qd (qa ?_)))))
      refine hk_region fun K hK => runs_eval tab_ok ?_
      simp only [ev0, evA, evB, evP, fl, gp, tab, simprocAttr, reduceCtorEq, reduceIte]
      refine fin_run ?_ (hK _ ?_) <;> clear hK <;> clear K
      · (first | exact trivial | omega | (simp only [In64] at *; omega) | (simp [In64] at *; omega) | (simp_all; done) | skip)
      refine qa ?_
      refine ⟨(i + 1, M), [0, 1, 2], ⟨show i + 1 ≤ M.length by omega, ⟨hIM, fun j hj b hb => ?_⟩⟩, show 2 ^ n - (i + 1) < 2 ^ n - i by omega, ?_⟩
      · by_cases hji : j = i
        · rw [hji, hxM]; exact hdone b (by omega)
        · exact hDM j (by have : j < i + 1 := hj
                          omega) b hb
      · simp only [leq, leA, ev0, evA, evB, evP, fl, gp, tab, simprocAttr, reduceCtorEq, reduceIte] <;> first | trivial | omega
  · (try simp only [nhs] at hC1)
    have hin : i = L.length := by omega
    have hdall : ∀ x ∈ L, ∀ a, a < n → Dn n (op m n) e x a L := fun x hx a ha => by
      obtain ⟨j, hj, rfl⟩ := mem_getDN hx
      exact hD j (by omega) a ha
    have hperm := hS.perm G hI hdall
    have hlen := hperm.length_eq
    have hul : ∀ x ∈ ul L, ∃ y, y < 2 ^ 64 ∧ x = .int .u64 ((y : Nat) : Int) := fun x hx => by
      obtain ⟨y, hy, rfl⟩ := List.mem_map.1 hx
      obtain ⟨p, _, rfl⟩ := hI.subs y hy
      exact ⟨_, hbt p, rfl⟩
    have hsort : FnM Tryd.prog 108 [.sl 0 0 (ul L).length, .p (.fn 109 [])] [.own (opl (ul L))] (.p (.tup [])) [.own (opl (ul SL))] :=
      sort_m Go.Proofs.Tryd.sortS (ul L) (ul SL) cfA (by intro hh; have := congrArg List.length hh; rw [ul_length] at this; have h1 := List.length_pos_of_mem hI.one; simp at this; rw [this] at h1; simp at h1) (ul_one L)
        (fun x hx => by obtain ⟨a, _, rfl⟩ := hul x hx; exact cmpS_self _)
        (fun x hx y hy z hz h1 h2 => by obtain ⟨a, _, rfl⟩ := hul x hx; obtain ⟨b, _, rfl⟩ := hul y hy; obtain ⟨c, _, rfl⟩ := hul z hz; exact cmpS_trans _ _ _ h1 h2)
        (fun x hx y hy z hz h1 h2 => by obtain ⟨a, _, rfl⟩ := hul x hx; obtain ⟨b, _, rfl⟩ := hul y hy; obtain ⟨c, _, rfl⟩ := hul z hz; exact cmpS_ntrans _ _ _ h1 h2)
        (fun x hx y hy h1 h2 => by
          obtain ⟨a, a1, rfl⟩ := hul x hx; obtain ⟨b, b1, rfl⟩ := hul y hy
          have := stl_inj a1 b1 (cmpS_tot _ _ h1 h2)
          rw [this])
        (fun x hx y hy => by obtain ⟨a, a1, rfl⟩ := hul x hx; obtain ⟨b, b1, rfl⟩ := hul y hy; exact allOf1_c a b a1 b1)
        (hperm.map _) (by
          unfold ul
          rw [List.pairwise_map]
          exact hS.rise.imp fun {x y} hxy h2 => cmpS_self _ (cmpS_trans _ _ _ hxy h2)) (by rw [ul_length]; omega)
    rw [ul_length] at hsort
    refine qj (qc (qc (qf (qa (qm ?_)))))
    refine hk_region fun K hK => runs_eval tab_ok ?_
    simp only [ev0, evA, evB, evP, fl, gp, tab, simprocAttr, reduceCtorEq, reduceIte]
    refine fin_stop ?_ (runs_callM [1] (hsort) rfl rfl ?_ (by simp only [leA, ev0, evA, evB, evP, fl, gp, tab, simprocAttr, reduceCtorEq, reduceIte]; first | trivial | (repeat constructor)) (by decide) (by first | rfl | (simp only [List.length_cons, List.length_nil, List.length_append]; decide)) (by first | rfl | (simp only [scM, opl_sc, List.all_cons, List.all_nil, List.length_cons, List.length_nil]; first | rfl | decide) | (simp [scM, scA, sc1, mpKeep, notAnc]; done)) (by simp only [dstOk, Nat.reduceLT]) (runs_eval tab_ok ?_))
    · (first | exact trivial | omega | (simp only [In64] at *; omega) | (simp [In64] at *; omega) | (simp_all; done) | skip)
    · (simp only [argsM, argM1, peekG, peekS, scA, sc1, ren, ren1, List.map_cons, List.map_nil, List.append_nil, List.cons_append, List.nil_append, enA, ev0, evA, evB, evP, fl, gp, tab, simprocAttr, reduceCtorEq, reduceIte]; try trivial)
    simp only [putM, hset, List.range', Blk.ren, ren, ren1, List.map_cons, List.map_nil, List.cons_append, List.nil_append, List.append_nil, List.length_cons, List.length_nil, ev0, evA, evB, evP, fl, gp, tab, simprocAttr, reduceCtorEq, reduceIte]
    refine fin_run trivial (hK _ ?_) <;> clear hK <;> clear K
    refine qa (qm ?_)
    rw [hlen, ← ul_length SL]
    refine hk_sealp 3 1 (ul_all SL) rfl rfl ?_
    refine hk_region fun K hK => runs_eval tab_ok ?_
    simp only [ev0, evA, evB, evP, fl, gp, tab, simprocAttr, reduceCtorEq, reduceIte]
    refine fin_run trivial (hK _ ?_) <;> clear hK <;> clear K
    refine qa (qk ?_)
    simp only [Tryd.results67, enA, ev0, evA, evB, evP, fl, gp, tab, simprocAttr, reduceCtorEq, reduceIte]
    all_goals ((first | exact rfl | exact ⟨rfl, rfl⟩ | exact ⟨rfl, rfl, rfl⟩ | exact ⟨trivial, rfl⟩ | exact ⟨Nat.le_refl _, rfl⟩ | trivial | (simp; done)))
end
end Go.Proofs.YtjikchbmkodgfaaDoor
