/-
  Classes: how often products of two are in a third. Conditions: none.
-/
import Derived.Test.YthdmioeddgednaaDoorS8
import Derived.Test.YthdmioeddgednaaDoorRW1
set_option linter.all false
namespace Go.Proofs.YthdmioeddgednaaDoor
open Go.Pv

/-! ### Tables of numbers by a rule -/

def mat (c : Nat) (f : Nat → Nat → Int) : List (List Int) := (List.range c).map fun j => rgz c (f j)
theorem mat_len (c : Nat) (f : Nat → Nat → Int) : (mat c f).length = c := by simp [mat]
theorem mat_get {c j : Nat} {f : Nat → Nat → Int} (hj : j < c) : (mat c f).getD j [] = rgz c (f j) := by
  simp [mat, List.getD, List.getElem?_map, List.getElem?_range hj]
theorem mat_row {c : Nat} {f : Nat → Nat → Int} : ∀ v ∈ mat c f, v.length = c := fun v hv => by
  simp only [mat, List.mem_map] at hv
  obtain ⟨j, _, rfl⟩ := hv
  exact rgz_len _ _
theorem mat_congr {c : Nat} {f f' : Nat → Nat → Int} (h : ∀ j, j < c → ∀ k, k < c → f j k = f' j k) : mat c f = mat c f' :=
  List.map_congr_left fun j hj => rgz_congr fun k hk => h j (List.mem_range.1 hj) k hk
theorem mat_set (c : Nat) (f : Nat → Nat → Int) (j k : Nat) (x : Int) : (mat c f).set j ((rgz c (f j)).set k x) = mat c fun j' k' => if j' = j ∧ k' = k then x else f j' k' := by
  refine List.ext_getElem (by simp [mat]) fun i h1 h2 => ?_
  have hi : i < c := by simpa [mat] using h2
  rw [List.getElem_set]
  by_cases e : j = i
  · subst e
    simp only [if_true, mat, List.getElem_map, List.getElem_range, rgz_set]
    exact rgz_congr fun a ha => by by_cases h : a = k <;> simp [h]
  · rw [if_neg e]
    simp only [mat, List.getElem_map, List.getElem_range]
    exact rgz_congr fun a ha => by simp [Ne.symm e]
theorem mat_zero (c : Nat) : List.replicate c (List.replicate c (0 : Int)) = mat c fun _ _ => 0 := by
  refine List.ext_getElem (by simp [mat]) fun i h1 h2 => ?_
  simp only [mat, List.getElem_replicate, List.getElem_map]
  refine List.ext_getElem (by simp [rgz]) fun i h1 h2 => ?_
  simp [rgz]

/-- Of the first t of a list so many are sent to j. -/
def tcp (A : List Int) (W : Int → Int) (t j : Nat) : Int := ((A.take t).countP (fun x => decide (W x = (j : Int))) : Nat)
theorem tcp_zero (A : List Int) (W : Int → Int) (j : Nat) : tcp A W 0 j = 0 := by simp [tcp]
theorem tcp_succ {A : List Int} (W : Int → Int) {t : Nat} (h : t < A.length) (j : Nat) : tcp A W (t + 1) j = tcp A W t j + if W (A.getD t 0) = (j : Int) then 1 else 0 := by
  unfold tcp
  rw [List.take_succ_eq_append_getElem h, List.countP_append]
  have : A[t] = A.getD t 0 := by simp [List.getD, List.getElem?_eq_getElem h]
  rw [this]
  rw [List.countP_singleton]
  by_cases e : W (A.getD t 0) = (j : Int)
  · rw [if_pos (by simpa using e), if_pos e]; omega
  · rw [if_neg (by simpa using e), if_neg e]; omega

theorem tcp_rng (A : List Int) (W : Int → Int) (t j : Nat) : 0 ≤ tcp A W t j ∧ tcp A W t j ≤ t := by
  unfold tcp
  have := List.countP_le_length (p := fun x => decide (W x = (j : Int))) (l := A.take t)
  rw [List.length_take] at this
  omega

/-- The class of what makes a product the first of class k. -/
def cw (n : Nat) (f : Nat → Nat → Nat) (e : Nat) (k : Nat) (x : Int) : Int := wch (cst n (cjb n f e)) ((f (iv n f e x.toNat) ((mem n (lead (cjb n f e))).getD k 0) : Nat) : Int)
def ct (n : Nat) (f : Nat → Nat → Nat) (e i j k : Nat) : Int := tcp ((cst n (cjb n f e)).getD i []) (cw n f e k) ((cst n (cjb n f e)).getD i []).length j
def cto (n : Nat) (f : Nat → Nat → Nat) (e i : Nat) : PV := .list (ll (mat (cst n (cjb n f e)).length (ct n f e i)))

def zs (c j : Nat) : List (List Int) := List.replicate j (List.replicate c 0)
theorem zs_len (c j : Nat) : (zs c j).length = j := by simp [zs]

theorem hz2 (c j : Nat) (x y : Blk) : hget (tl (zs c j) ++ [x] ++ [y]) (j + 1) = y := by
  have : j + 1 = (tl (zs c j) ++ [x]).length := by simp [tl_length, zs_len]
  rw [this]; exact hget_snoc _ _
theorem hz3 (c j : Nat) (x y z : Blk) : hget (tl (zs c j) ++ [x] ++ [y] ++ [z]) (j + 2) = z := by
  have : j + 2 = (tl (zs c j) ++ [x] ++ [y]).length := by simp [tl_length, zs_len]
  rw [this]; exact hget_snoc _ _
theorem zs_get {c j i : Nat} (h : i < j) : (zs c j).getD i [] = List.replicate c 0 := by
  simp [zs, List.getD, List.getElem?_replicate, h]
theorem zs_succ (c j : Nat) : zs c (j + 1) = zs c j ++ [List.replicate c 0] := by
  simp [zs, List.replicate_succ']
theorem hz4 {c j i : Nat} (h : i < j + 1) (y z : Blk) : hget (tl (zs c j) ++ [.own (ol (List.replicate c 0))] ++ [y] ++ [z]) i = .own (ol ((zs c (j + 1)).getD i [])) := by
  have hl := zs_len c (j + 1)
  rw [tl_snoc, ← zs_succ, hget_app1 (by rw [List.length_append, tl_length, hl]; simp; omega), hget_app1 (by rw [tl_length, hl]; exact h), hget_tl (by rw [hl]; exact h)]

/-- The state of the table while class k is at its t-th thing. -/
def f3 (g : Nat → Nat → Int) (k j k' : Nat) : Int := if k' < k then g j k' else 0
def f4 (g : Nat → Nat → Int) (A : List Int) (W : Int → Int) (k t j k' : Nat) : Int := if k' < k then g j k' else if k' = k then tcp A W t j else 0

set_option maxHeartbeats 4000000 in
set_option maxRecDepth 20000 in
theorem consts_c {n e : Nat} {m : List Int} (h : GT n m n e) : FnC Tryd.prog 91 [gp n m, .list (ll (cst n (cjb n (op m n) e)))] (.list ((List.range (cst n (cjb n (op m n) e)).length).map (cto n (op m n) e))) := by
  have G := h.2.2
  have T := h.2.1
  have hb := h.2.1.big
  have E := G.cjb_eqv
  have hcl : (cst n (cjb n (op m n) e)).length ≤ n := cstp_len _ _ _
  generalize hL : cst n (cjb n (op m n) e) = L at *
  generalize hc : L.length = c at *
  refine fnc_of tab_ok Tryd.func91 rfl (by kernel_rfl) (by rw [Tryd.ntmps91]; exact Nat.le_add_left 2 _) ?_; rw [Tryd.ntmps91]
  refine qm ?_
  refine hk_region fun K hK => runs_eval tab_ok ?_
  simp only [ev0, evA, evB, evP, fl, gp, tab, simprocAttr, reduceCtorEq, reduceIte]
  refine fin_run ?_ (hK _ ?_) <;> clear hK <;> clear K
  · (first | exact trivial | omega | (simp only [In64] at *; omega) | (simp [In64] at *; omega) | (simp_all; done) | skip)
  refine qa (qm ?_)
  refine hk_region fun K hK => runs_eval tab_ok ?_
  simp only [ev0, evA, evB, evP, fl, gp, tab, simprocAttr, reduceCtorEq, reduceIte]
  refine fin_stop trivial (runs_call ((hL ▸ where_s m hb E)) rfl rfl rfl (by simp only [dstOk, Nat.reduceLT]) (by repeat (first | exact trivial | constructor)) (runs_eval tab_ok ?_))
  simp only [ev0, evA, evB, evP, fl, gp, tab, simprocAttr, reduceCtorEq, reduceIte]
  refine fin_run ?_ (hK _ ?_) <;> clear hK <;> clear K
  · (first | exact trivial | omega | (simp only [In64] at *; omega) | (simp [In64] at *; omega) | (simp_all; done) | skip)
  refine qa (qm ?_)
  refine hk_region fun K hK => runs_eval tab_ok ?_
  simp only [ev0, evA, evB, evP, fl, gp, tab, simprocAttr, reduceCtorEq, reduceIte]
  refine fin_run trivial (hK _ ?_) <;> clear hK <;> clear K
  refine qa (qm (qm ?_))
  refine hk_own0 6 rfl ?_
  refine hk_region fun K hK => runs_eval tab_ok ?_
  simp only [ev0, evA, evB, evP, fl, gp, tab, simprocAttr, reduceCtorEq, reduceIte, ll_length, hc]
  refine fin_run trivial (hK _ ?_) <;> clear hK <;> clear K
  refine qa (ql ?_)
  refine hk_loop (ι := Nat) (fun i => ⟨76, [(1, .p (.list (ll L))), (2, .ptr 0 0), (5, .p (.list (il (whl n (cjb n (op m n) e))))), (6, .sl 1 0 i), (18, .p (.list (ll L))), (19, .p (.int .i64 c)), (20, .p (.int .i64 i))], [.own [.p (.int .i64 n), .p (.list (il m))], .own (opl ((List.range i).map (cto n (op m n) e)))]⟩) (fun i => i ≤ c) (fun i => c - i) 0 (Nat.zero_le _) [0, 1] (by simp only [leq, leA, ev0, evA, evB, evP, fl, gp, tab, simprocAttr, reduceCtorEq, reduceIte] <;> simp [opl]) fun i hi => ?_
  refine qm ?_
  refine hk_region fun K hK => runs_eval tab_ok ?_
  simp only [ev0, evA, evB, evP, fl, gp, tab, simprocAttr, reduceCtorEq, reduceIte]
  refine fin_run trivial (hK _ ?_) <;> clear hK <;> clear K
  refine qa (qm ?_)
  refine hk_cond rfl (fun hC1 => ?_) (fun hC1 => ?_)
  · (try simp only [nhs] at hC1)
    have hlt : i < L.length := by omega
    refine qh (qa (qm (ql (qm ?_))))
    refine hk_region fun K hK => runs_eval tab_ok ?_
    simp only [ev0, evA, evB, evP, fl, gp, tab, simprocAttr, reduceCtorEq, reduceIte, ll_length, ll_get hlt]
    refine fin_run ?_ (hK _ ?_) <;> clear hK <;> clear K
    · omega
    refine qa (qm ?_)
    refine hk_region fun K hK => runs_eval tab_ok ?_
    simp only [ev0, evA, evB, evP, fl, gp, tab, simprocAttr, reduceCtorEq, reduceIte]
    refine fin_run trivial (hK _ ?_) <;> clear hK <;> clear K
    refine qa (qm (qm ?_))
    refine hk_own0 9 rfl ?_
    refine hk_region fun K hK => runs_eval tab_ok ?_
    simp only [ev0, evA, evB, evP, fl, gp, tab, simprocAttr, reduceCtorEq, reduceIte, ll_length, hc]
    refine fin_run trivial (hK _ ?_) <;> clear hK <;> clear K
    refine qa (ql ?_)
    refine hk_loop (ι := Nat) (fun j => ⟨76, [(1, .p (.list (ll L))), (2, .ptr 0 0), (5, .p (.list (il (whl n (cjb n (op m n) e))))), (6, .sl 1 0 i), (8, .p (.list (il (L.getD i [])))), (9, .sl 2 0 j), (18, .p (.list (ll L))), (19, .p (.int .i64 c)), (20, .p (.int .i64 i)), (25, .p (.int .i64 c)), (26, .p (.int .i64 j))], .own [.p (.int .i64 n), .p (.list (il m))] :: .own (opl ((List.range i).map (cto n (op m n) e))) :: .own (rws c j) :: tl (zs c j)⟩) (fun j => j ≤ c) (fun j => c - j) 0 (Nat.zero_le _) [0, 1, 2] (by simp only [leq, leA, ev0, evA, evB, evP, fl, gp, tab, simprocAttr, reduceCtorEq, reduceIte] <;> simp [rws, rwf, zs, tl, LeH]) fun j hj => ?_
    refine qm ?_
    refine hk_region fun K hK => runs_eval tab_ok ?_
    simp only [ev0, evA, evB, evP, fl, gp, tab, simprocAttr, reduceCtorEq, reduceIte]
    refine fin_run trivial (hK _ ?_) <;> clear hK <;> clear K
    refine qa (qm ?_)
    refine hk_cond rfl (fun hC2 => ?_) (fun hC2 => ?_)
    · (try simp only [nhs] at hC2)
      have hjl : j < c := by omega
      refine qh (qa (qm (ql ?_)))
      refine hk_region fun K hK => runs_eval tab_ok ?_
      simp only [ev0, evA, evB, evP, fl, gp, tab, simprocAttr, reduceCtorEq, reduceIte, ll_length, hc, hget_snoc, rws_take, tl_length, zs_len, List.length_append, ol_replicate, hz2, rws_snoc]
      refine fin_stop ?_ (runs_op (build1_does tab_ok rfl rfl rfl rfl rfl rfl) rfl (by simp only [dstOk, Nat.reduceLT]) (runs_eval tab_ok ?_))
      · (first | exact trivial | omega | (simp only [In64] at *; omega) | (simp [In64] at *; omega) | (simp_all; done) | skip)
      simp only [ev0, evA, evB, evP, fl, gp, tab, simprocAttr, reduceCtorEq, reduceIte, ll_length, hc, hget_snoc, rws_take, tl_length, zs_len, List.length_append, ol_replicate, hz2, rws_snoc]
      refine fin_run ?_ (hK _ ?_) <;> clear hK <;> clear K
      · rw [rws_length]; exact ⟨rws_ok _ _, by omega, by omega, by omega⟩
      refine qd (qa ?_)
      refine hk_region fun K hK => runs_eval tab_ok ?_
      simp only [ev0, evA, evB, evP, fl, gp, tab, simprocAttr, reduceCtorEq, reduceIte]
      refine fin_run ?_ (hK _ ?_) <;> clear hK <;> clear K
      · (first | exact trivial | omega | (simp only [In64] at *; omega) | (simp [In64] at *; omega) | (simp_all; done) | skip)
      refine qa ?_
      refine ⟨j + 1, 0 :: 1 :: (j + 5) :: List.range' 3 (j + 1), by omega, by omega, ?_⟩
      refine le_rows (N := c) (G := [.int .i64 n, .list (il m)]) (O := (List.range i).map (cto n (op m n) e)) (zs_len c (j + 1)) rfl rfl ⟨by omega, by omega, .inr (by omega)⟩ rfl rfl (hz3 c j _ _ _) (fun q hq => hz4 hq _ _) ?_
      simp [LeS, St.get, lk, Go.Pv.ren, ren1, scA, sc1]
    · (try simp only [nhs] at hC2)
      have hjc : j = c := by omega
      subst hjc
      refine qj (qc (qc (qf (qa (qm (qm ?_))))))
      refine hk_region fun K hK => runs_eval tab_ok ?_
      simp only [ev0, evA, evB, evP, fl, gp, tab, simprocAttr, reduceCtorEq, reduceIte, ll_length, hc]
      refine fin_run trivial (hK _ ?_) <;> clear hK <;> clear K
      refine qa (ql ?_)
      refine hk_loop (ι := Nat) (fun k => ⟨76, [(1, .p (.list (ll L))), (2, .ptr 0 0), (5, .p (.list (il (whl n (cjb n (op m n) e))))), (6, .sl 1 0 i), (8, .p (.list (il (L.getD i [])))), (9, .sl 2 0 j), (18, .p (.list (ll L))), (19, .p (.int .i64 j)), (20, .p (.int .i64 i)), (35, .p (.list (ll L))), (36, .p (.int .i64 j)), (37, .p (.int .i64 k))], .own [.p (.int .i64 n), .p (.list (il m))] :: .own (opl ((List.range i).map (cto n (op m n) e))) :: .own (rws j j) :: tl (mat j (f3 (ct n (op m n) e i) k))⟩) (fun k => k ≤ j) (fun k => j - k) 0 (Nat.zero_le _) (0 :: 1 :: 2 :: List.range' 3 j) (by
        refine le_rows (N := j) (G := [.int .i64 n, .list (il m)]) (O := (List.range i).map (cto n (op m n) e)) (mat_len _ _) rfl rfl ⟨by omega, by omega, .inl rfl⟩ rfl rfl rfl (fun q hq => ?_) ?_
        · show hget (tl (zs j j)) q = _
          rw [hget_tl (by rw [zs_len]; exact hq)]
          congr 2
          rw [zs, mat_zero]
          rfl
        · simp [LeS, St.get, lk, Go.Pv.ren, ren1, scA, sc1]) fun k hk => ?_
      refine qm ?_
      refine hk_region fun K hK => runs_eval tab_ok ?_
      simp only [ev0, evA, evB, evP, fl, gp, tab, simprocAttr, reduceCtorEq, reduceIte]
      refine fin_run trivial (hK _ ?_) <;> clear hK <;> clear K
      refine qa (qm ?_)
      refine hk_cond rfl (fun hC3 => ?_) (fun hC3 => ?_)
      · (try simp only [nhs] at hC3)
        have hkl : k < L.length := by omega
        refine qh (qa (qm (ql (qm ?_))))
        refine hk_region fun K hK => runs_eval tab_ok ?_
        simp only [ev0, evA, evB, evP, fl, gp, tab, simprocAttr, reduceCtorEq, reduceIte, ll_length, ll_get hkl]
        refine fin_run ?_ (hK _ ?_) <;> clear hK <;> clear K
        · omega
        refine qa (qm ?_)
        refine hk_region fun K hK => runs_eval tab_ok ?_
        simp only [ev0, evA, evB, evP, fl, gp, tab, simprocAttr, reduceCtorEq, reduceIte]
        refine fin_run trivial (hK _ ?_) <;> clear hK <;> clear K
        refine qa (ql ?_)
        refine hk_loop (ι := Nat) (fun t => ⟨76, [(1, .p (.list (ll L))), (2, .ptr 0 0), (5, .p (.list (il (whl n (cjb n (op m n) e))))), (6, .sl 1 0 i), (8, .p (.list (il (L.getD i [])))), (9, .sl 2 0 j), (10, .p (.int .i64 k)), (11, .p (.list (il (L.getD k [])))), (18, .p (.list (ll L))), (19, .p (.int .i64 j)), (20, .p (.int .i64 i)), (35, .p (.list (ll L))), (36, .p (.int .i64 j)), (37, .p (.int .i64 k)), (42, .p (.list (il (L.getD i [])))), (43, .p (.int .i64 (L.getD i []).length)), (44, .p (.int .i64 t))], .own [.p (.int .i64 n), .p (.list (il m))] :: .own (opl ((List.range i).map (cto n (op m n) e))) :: .own (rws j j) :: tl (mat j (f4 (ct n (op m n) e i) (L.getD i []) (cw n (op m n) e k) k t))⟩) (fun t => t ≤ (L.getD i []).length) (fun t => (L.getD i []).length - t) 0 (Nat.zero_le _) (0 :: 1 :: 2 :: List.range' 3 j) (by
          refine le_rows (N := j) (G := [.int .i64 n, .list (il m)]) (O := (List.range i).map (cto n (op m n) e)) (mat_len _ _) rfl rfl ⟨by omega, by omega, .inl rfl⟩ rfl rfl rfl (fun q hq => ?_) ?_
          · show hget (tl (mat j _)) q = _
            rw [hget_tl (by rw [mat_len]; exact hq)]
            congr 3
            refine mat_congr fun a _ b _ => ?_
            unfold f3 f4
            split
            · rfl
            · split
              · rw [tcp_zero]
              · rfl
          · simp [LeS, St.get, lk, Go.Pv.ren, ren1, scA, sc1, il_length]) fun t ht => ?_
        refine qm ?_
        refine hk_region fun K hK => runs_eval tab_ok ?_
        simp only [ev0, evA, evB, evP, fl, gp, tab, simprocAttr, reduceCtorEq, reduceIte]
        refine fin_run trivial (hK _ ?_) <;> clear hK <;> clear K
        refine qa (qm ?_)
        refine hk_cond rfl (fun hC4 => ?_) (fun hC4 => ?_)
        · (try simp only [nhs] at hC4)
          have htl : t < (L.getD i []).length := by omega
          obtain ⟨x, x1, x2, x3, x4⟩ := cst_get (n := n) (r := cjb n (op m n) e) (i := i) (by rw [hL]; exact hlt)
          obtain ⟨y, y1, y2, y3, y4⟩ := cst_get (n := n) (r := cjb n (op m n) e) (i := k) (by rw [hL]; exact hkl)
          rw [hL] at x3 y3
          obtain ⟨a, a1, a2, a3⟩ := thl_get (n := n) (p := cjb n (op m n) e x) (by rw [← x3]; exact htl)
          rw [← x3] at a3
          obtain ⟨hd1, hd2⟩ := (lead_head y1).1 y2
          rw [← y3] at hd1 hd2
          have hia := G.iv_lt a1
          have hpr := T.lt hia y1
          obtain ⟨q, q1, q2⟩ := cst_in E hpr
          have hwq := wch_at E q1 hpr q2
          rw [hL] at q1 hwq
          have hcwa : cw n (op m n) e k ((L.getD i []).getD t 0) = (q : Int) := by
            rw [a3]
            unfold cw
            rw [Int.toNat_natCast, y4, hL, hwq]
          have hwl : (whl n (cjb n (op m n) e)).length = n := rgz_len _ _
          have hwg : (whl n (cjb n (op m n) e)).getD (op m n (iv n (op m n) e a) y) 0 = (q : Int) := by rw [whl, rgz_get hpr, hL, hwq]
          refine qh (qa (qm (ql (qm ?_))))
          refine hk_region fun K hK => runs_eval tab_ok ?_
          simp only [ev0, evA, evB, evP, fl, gp, tab, simprocAttr, reduceCtorEq, reduceIte, il_get htl, a3]
          refine fin_run ?_ (hK _ ?_) <;> clear hK <;> clear K
          · (first | exact trivial | omega | (simp only [In64] at *; omega) | (simp [In64] at *; omega) | (simp_all; done) | skip)
          refine qa (qm ?_)
          refine hk_draw2 mixed fun K hK => runs2_eval tab_ok ?_
          simp only [evD, ev0, evA, evB, evP, fl, gp, tab, simprocAttr, reduceCtorEq, reduceIte, il_get hd1, hd2]
          refine fin2_stop ?_ (runs2_call (invOf_c h a1) rfl rfl rfl rfl (by simp only [dstOk, Nat.reduceLT]) (by repeat (first | exact trivial | constructor)) (runs2_eval tab_ok ?_))
          · (first | exact trivial | omega | (simp only [In64] at *; omega) | (simp [In64] at *; omega) | (simp_all; done) | skip)
          simp only [evD, ev0, evA, evB, evP, fl, gp, tab, simprocAttr, reduceCtorEq, reduceIte, il_get hd1, hd2]
          refine fin2_stop ?_ (runs2_call (of_c T hia y1) rfl rfl rfl rfl (by simp only [dstOk, Nat.reduceLT]) (by repeat (first | exact trivial | constructor)) (runs2_eval tab_ok ?_))
          · (first | exact trivial | omega | (simp only [In64] at *; omega) | (simp [In64] at *; omega) | (simp_all; done) | skip)
          simp only [evD, ev0, evA, evB, evP, fl, gp, tab, simprocAttr, reduceCtorEq, reduceIte, il_get hd1, hd2]
          refine fin2_run ?_ (hK _ _ (by first | kernel_rfl | rfl) ?_) <;> clear hK <;> clear K
          · (first | exact trivial | omega | (simp only [In64] at *; omega) | (simp [In64] at *; omega) | (simp_all; done) | skip)
          refine qa ?_
          refine hk_region fun K hK => runs_eval tab_ok ?_
          simp only [ev0, evA, evB, evP, fl, gp, tab, simprocAttr, reduceCtorEq, reduceIte, il_get (show op m n (iv n (op m n) e a) y < (whl n (cjb n (op m n) e)).length by omega), hwg, rws_get (show q < j by omega), hget_tl (show q < (mat j (f4 (ct n (op m n) e i) (L.getD i []) (cw n (op m n) e k) k t)).length by rw [mat_len]; omega), mat_get (show q < j by omega), ol_get (show k < (rgz j (f4 (ct n (op m n) e i) (L.getD i []) (cw n (op m n) e k) k t q)).length by rw [rgz_len]; omega), ol_set, hset_tl, mat_set, rgz_get (show k < j by omega)]
          refine fin_run ?_ (hK _ ?_) <;> clear hK <;> clear K
          · have hf4 : f4 (ct n (op m n) e i) (L.getD i []) (cw n (op m n) e k) k t q k = tcp (L.getD i []) (cw n (op m n) e k) t q := by unfold f4; rw [if_neg (Nat.lt_irrefl _), if_pos rfl]
            have hr := tcp_rng (L.getD i []) (cw n (op m n) e k) t q
            have hAl : (L.getD i []).length ≤ n := by rw [x3]; exact thl_le _ _
            rw [hf4, rgz_len, rws_length]
            simp only [In64]
            omega
          refine qd (qa ?_)
          refine hk_region fun K hK => runs_eval tab_ok ?_
          simp only [ev0, evA, evB, evP, fl, gp, tab, simprocAttr, reduceCtorEq, reduceIte]
          refine fin_run ?_ (hK _ ?_) <;> clear hK <;> clear K
          · have hAl : (L.getD i []).length ≤ n := by rw [x3]; exact thl_le _ _
            simp only [In64]; omega
          refine qa ?_
          refine ⟨t + 1, 0 :: 1 :: 2 :: List.range' 3 j, by omega, by omega, ?_⟩
          refine le_rows (N := j) (G := [.int .i64 n, .list (il m)]) (O := (List.range i).map (cto n (op m n) e)) (mat_len _ _) rfl rfl ⟨by omega, by omega, .inl rfl⟩ rfl rfl rfl (fun q' hq' => ?_) ?_
          · show hget (tl (mat j _)) q' = _
            rw [hget_tl (by rw [mat_len]; exact hq')]
            congr 3
            refine mat_congr fun a' _ b' _ => ?_
            unfold f4
            by_cases h1 : b' < k
            · rw [if_pos h1, if_pos h1, if_neg (by omega)]
            · rw [if_neg h1, if_neg h1]
              by_cases h2 : b' = k
              · subst h2
                rw [if_pos rfl, if_pos rfl, if_neg (Nat.lt_irrefl _), if_pos rfl, tcp_succ _ htl, hcwa]
                by_cases h3 : a' = q
                · subst h3
                  rw [if_pos ⟨rfl, rfl⟩, if_pos rfl]
                · rw [if_neg (by omega), if_neg (by omega), Int.add_zero]
              · rw [if_neg h2, if_neg h2, if_neg (by omega)]
          · simp [LeS, St.get, lk, Go.Pv.ren, ren1, scA, sc1]
        · (try simp only [nhs] at hC4)
          have htl : t = (L.getD i []).length := by omega
          subst htl
          refine qj (qc (qc (qf (qd (qa ?_)))))
          refine hk_region fun K hK => runs_eval tab_ok ?_
          simp only [ev0, evA, evB, evP, fl, gp, tab, simprocAttr, reduceCtorEq, reduceIte]
          refine fin_run ?_ (hK _ ?_) <;> clear hK <;> clear K
          · (first | exact trivial | omega | (simp only [In64] at *; omega) | (simp [In64] at *; omega) | (simp_all; done) | skip)
          refine qa ?_
          refine ⟨k + 1, 0 :: 1 :: 2 :: List.range' 3 j, by omega, by omega, ?_⟩
          refine le_rows (N := j) (G := [.int .i64 n, .list (il m)]) (O := (List.range i).map (cto n (op m n) e)) (mat_len _ _) rfl rfl ⟨by omega, by omega, .inl rfl⟩ rfl rfl rfl (fun q' hq' => ?_) ?_
          · show hget (tl (mat j _)) q' = _
            rw [hget_tl (by rw [mat_len]; exact hq')]
            congr 3
            refine mat_congr fun a' _ b' _ => ?_
            unfold f3 f4
            by_cases h1 : b' < k
            · rw [if_pos h1, if_pos (by omega)]
            · rw [if_neg h1]
              by_cases h2 : b' = k
              · subst h2
                rw [if_pos rfl, if_pos (by omega), ct, hL]
              · rw [if_neg h2, if_neg (by omega)]
          · simp [LeS, St.get, lk, Go.Pv.ren, ren1, scA, sc1]
      · (try simp only [nhs] at hC3)
        refine qj (qc (qc (qf (qa ?_))))
        have hkj : k = j := by omega
        subst hkj
        refine hk_rows 9 (N := k) (M := mat k (f3 (ct n (op m n) e i) k)) mat_row (by rw [mat_len]; rfl) (by rw [mat_len]) ?_
        have hfin : mat k (f3 (ct n (op m n) e i) k) = mat k (ct n (op m n) e i) := mat_congr fun a _ b hb => by unfold f3; rw [if_pos hb]
        rw [hfin]
        refine hk_le (s1 := ⟨76, [(1, .p (.list (ll L))), (2, .ptr 0 0), (5, .p (.list (il (whl n (cjb n (op m n) e))))), (6, .sl 1 0 i), (9, .p (.list (ll (mat k (ct n (op m n) e i))))), (18, .p (.list (ll L))), (19, .p (.int .i64 k)), (20, .p (.int .i64 i))], [.own [.p (.int .i64 n), .p (.list (il m))], .own (opl ((List.range i).map (cto n (op m n) e)))]⟩) [0, 1] (by simp only [leq, leA, ev0, evA, evB, evP, fl, gp, tab, simprocAttr, reduceCtorEq, reduceIte]) ?_
        refine hk_region fun K hK => runs_eval tab_ok ?_
        simp only [ev0, evA, evB, evP, fl, gp, tab, simprocAttr, reduceCtorEq, reduceIte, opl_snoc]
        refine fin_run ?_ (hK _ ?_) <;> clear hK <;> clear K
        · refine ⟨?_, by simp, by omega, by omega⟩
          rw [List.take_of_length_le (by simp)]
          exact opl_ok (by simp [PV.one, cto])
        refine qd (qa ?_)
        refine hk_region fun K hK => runs_eval tab_ok ?_
        simp only [ev0, evA, evB, evP, fl, gp, tab, simprocAttr, reduceCtorEq, reduceIte]
        refine fin_run ?_ (hK _ ?_) <;> clear hK <;> clear K
        · (first | exact trivial | omega | (simp only [In64] at *; omega) | (simp [In64] at *; omega) | (simp_all; done) | skip)
        refine qa ?_
        have hsn : (List.range i).map (cto n (op m n) e) ++ [.list (ll (mat k (ct n (op m n) e i)))] = (List.range (i + 1)).map (cto n (op m n) e) := by
          rw [List.range_succ, List.map_append]
          simp [cto, hL, hc]
        refine ⟨i + 1, [0, 2], by omega, by omega, ?_⟩
        simp only [leq, leA, ev0, evA, evB, evP, fl, gp, tab, simprocAttr, reduceCtorEq, reduceIte]
        rw [List.take_of_length_le (show ((List.range i).map (cto n (op m n) e)).length ≤ i by simp), hsn, List.take_length]
  · (try simp only [nhs] at hC1)
    have hic : i = c := by omega
    subst hic
    refine hk_sealp 6 1 (l := (List.range i).map (cto n (op m n) e)) (by simp [PV.one, cto]) (by simp; rfl) rfl ?_
    refine qj (qc (qc (qf (qa (qm ?_)))))
    refine hk_region fun K hK => runs_eval tab_ok ?_
    simp only [ev0, evA, evB, evP, fl, gp, tab, simprocAttr, reduceCtorEq, reduceIte]
    refine fin_run trivial (hK _ ?_) <;> clear hK <;> clear K
    refine qa (qk ?_)
    simp only [Tryd.results91, enA, ev0, evA, evB, evP, fl, gp, tab, simprocAttr, reduceCtorEq, reduceIte]
    all_goals (rfl)
end Go.Proofs.YthdmioeddgednaaDoor
