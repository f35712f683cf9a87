/-
  Parts of a group as groups; what a group does with cosets: by maps. Conditions: none.
-/
import Derived.Test.YtjikchbmkodgfaaDoorS12
set_option linter.all false
namespace Go.Proofs.YtjikchbmkodgfaaDoor
open Go.Pv

/-! ### Parts -/

/-- Where a thing stands among those of which something is so. -/
def pix (p : Nat → Bool) (x : Nat) : Nat := (thl x p).length
theorem thl_split (n x : Nat) (p : Nat → Bool) (hx : x < n) (hp : p x = true) : ∃ r, thl n p = thl x p ++ (x : Int) :: r := by
  induction n with
  | zero => omega
  | succ n ih =>
    rw [thl_succ]
    by_cases h : x = n
    · subst h
      rw [if_pos hp]; exact ⟨[], rfl⟩
    · obtain ⟨r, hr⟩ := ih (by omega)
      rw [hr]
      exact ⟨r ++ (if p n = true then [(n : Int)] else []), by simp⟩
theorem pix_at {n x : Nat} {p : Nat → Bool} (hx : x < n) (hp : p x = true) : pix p x < (thl n p).length ∧ (thl n p).getD (pix p x) 0 = (x : Int) := by
  obtain ⟨r, hr⟩ := thl_split n x p hx hp
  unfold pix
  rw [hr]
  constructor
  · simp
  · simp [List.getD]
theorem pix_get {n i x : Nat} {p : Nat → Bool} (hi : i < (thl n p).length) (hx : x < n) (hp : p x = true) (h : (thl n p).getD i 0 = (x : Int)) : pix p x = i := by
  obtain ⟨h1, h2⟩ := pix_at hx hp
  rcases Nat.lt_trichotomy (pix p x) i with h3 | h3 | h3
  · have := thl_get_asc h3 hi; omega
  · exact h3
  · have := thl_get_asc h3 h1; omega
def lat (n : Nat) (p : Nat → Bool) (i : Nat) : Nat := ((thl n p).getD i 0).toNat
theorem lat_at {n i : Nat} {p : Nat → Bool} (hi : i < (thl n p).length) : lat n p i < n ∧ p (lat n p i) = true ∧ (thl n p).getD i 0 = (lat n p i : Int) ∧ pix p (lat n p i) = i := by
  obtain ⟨x, x1, x2, x3⟩ := thl_get hi
  have : lat n p i = x := by unfold lat; rw [x3]; rfl
  rw [this]
  exact ⟨x1, x2, x3, pix_get hi x1 x2 x3⟩
/-- The part's operation, by places. -/
def pop (n : Nat) (f : Nat → Nat → Nat) (p : Nat → Bool) (i j : Nat) : Nat := pix p (f (lat n p i) (lat n p j))
def ptb (n : Nat) (f : Nat → Nat → Nat) (p : Nat → Bool) : List Int := tbl (fun i j => ((pop n f p i j : Nat) : Int)) (thl n p).length
theorem pop_at {n e : Nat} {f : Nat → Nat → Nat} {p : Nat → Bool} (G : Grp n f e) (hs : Sub n f e p) {i j : Nat} (hi : i < (thl n p).length) (hj : j < (thl n p).length) : pop n f p i j < (thl n p).length ∧ lat n p (pop n f p i j) = f (lat n p i) (lat n p j) := by
  obtain ⟨x1, x2, _, _⟩ := lat_at hi
  obtain ⟨y1, y2, _, _⟩ := lat_at hj
  obtain ⟨h1, h2⟩ := pix_at (G.cl _ _ x1 y1) (hs.mul _ _ x1 y1 x2 y2)
  exact ⟨h1, by unfold pop lat at *; rw [h2]; rfl⟩
/-- A part is a group. -/
theorem ptb_grp {n e : Nat} {f : Nat → Nat → Nat} {p : Nat → Bool} (G : Grp n f e) (hs : Sub n f e p) : Grp (thl n p).length (pop n f p) (pix p e) := by
  have le := pix_at G.el hs.one
  have hat : ∀ {i}, i < (thl n p).length → pix p (lat n p i) = i := fun hi => (lat_at hi).2.2.2
  have hle : lat n p (pix p e) = e := by unfold lat; rw [le.2]; rfl
  refine ⟨by omega, fun i j hi hj => (pop_at G hs hi hj).1, le.1, fun i hi => ?_, fun i hi => ?_, fun i j k hi hj hk => ?_, fun i hi => ?_⟩
  · unfold pop; rw [hle, G.one_l _ (lat_at hi).1, hat hi]
  · unfold pop; rw [hle, G.one_r _ (lat_at hi).1, hat hi]
  · have h1 := pop_at G hs hi hj
    have h2 := pop_at G hs hj hk
    show pix p (f (lat n p (pop n f p i j)) (lat n p k)) = pix p (f (lat n p i) (lat n p (pop n f p j k)))
    rw [h1.2, h2.2, G.assoc _ _ _ (lat_at hi).1 (lat_at hj).1 (lat_at hk).1]
  · obtain ⟨x1, x2, _, _⟩ := lat_at hi
    have h1 := pix_at (G.iv_lt x1) (hs.inv _ x1 x2)
    have h2 : lat n p (pix p (iv n f e (lat n p i))) = iv n f e (lat n p i) := by
      show ((thl n p).getD (pix p (iv n f e (lat n p i))) 0).toNat = _
      rw [h1.2]; rfl
    refine ⟨_, h1.1, ?_, ?_⟩
    · show pix p (f (lat n p i) (lat n p (pix p (iv n f e (lat n p i))))) = _
      rw [h2, G.mul_iv x1]
    · show pix p (f (lat n p (pix p (iv n f e (lat n p i)))) (lat n p i)) = _
      rw [h2, G.iv_mul x1]

/-! ### Maps by lists of keys -/
def mpd (l : List Int) : Int → Bool := fun u => decide (u ∈ l)
def mpv (l : List Int) (g : Int → PV) : Int → PV := fun u => bif decide (u ∈ l) then g u else default
theorem mpd_nil : (fun _ : Int => false) = mpd [] := funext fun u => by simp [mpd]
theorem mpv_nil (g : Int → PV) : (fun _ : Int => (default : PV)) = mpv [] g := funext fun u => by simp [mpv]
theorem mpd_set (l : List Int) (x : Int) : (fun u => decide (u = x) || mpd l u) = mpd (l ++ [x]) := funext fun u => by
  unfold mpd
  rw [Bool.eq_iff_iff]
  simp only [Bool.or_eq_true, decide_eq_true_eq, List.mem_append, List.mem_singleton]
  exact Or.comm
theorem mpv_set (l : List Int) (x : Int) (g : Int → PV) : (fun u => bif decide (u = x) then g x else mpv l g u) = mpv (l ++ [x]) g := funext fun u => by
  unfold mpv
  by_cases hu : u = x
  · subst hu; simp
  · simp [hu]
theorem mpd_in {l : List Int} {x : Int} (h : x ∈ l) : mpd l x = true := decide_eq_true h
theorem mpv_in {l : List Int} {x : Int} (g : Int → PV) (h : x ∈ l) : mpv l g x = g x := by
  unfold mpv
  rw [decide_eq_true h]; rfl
theorem take_snoc {l : List Int} {i : Nat} (h : i < l.length) : l.take (i + 1) = l.take i ++ [l.getD i 0] := by
  rw [List.take_succ_eq_append_getElem h]
  simp [List.getD, List.getElem?_eq_getElem h]
/-- Where a part's thing stands, as a value. -/
def pxv (p : Nat → Bool) (u : Int) : PV := .int .i64 (pix p u.toNat)

theorem part_w (N : Int) (m l : List Int) (w : Int × Int) (hG : FnC Tryd.prog 95 [gp N m, .list (il l)] (fl w)) (hw : ¬ w.1 = 0) : FnC Tryd.prog 57 [gp N m, .list (il l)] (.tup [gp 0 [], fl w]) := by
  refine fnc_of tab_ok Tryd.func57 rfl (by kernel_rfl) (by rw [Tryd.ntmps57]; exact Nat.le_add_left 2 _) ?_; rw [Tryd.ntmps57]
  refine qm ?_
  refine hk_region fun K hK => runs_eval tab_ok ?_
  simp only [ev0, evA, evB, evP, fl, gp, tab, simprocAttr, reduceCtorEq, reduceIte]
  refine fin_run ?_ (hK _ ?_) <;> clear hK <;> clear K
  · (first | exact trivial | omega | (simp only [In64] at *; omega) | (simp [In64] at *; omega) | (simp_all; done) | skip)
  refine qa (qm (qm ?_))
  refine hk_region fun K hK => runs_eval tab_ok ?_
  simp only [ev0, evA, evB, evP, fl, gp, tab, simprocAttr, reduceCtorEq, reduceIte]
  refine fin_stop trivial (runs_call (hG) rfl rfl rfl (by simp only [dstOk, Nat.reduceLT]) (by repeat (first | exact trivial | constructor)) (runs_eval tab_ok ?_))
  simp only [ev0, evA, evB, evP, fl, gp, tab, simprocAttr, reduceCtorEq, reduceIte]
  refine fin_run ?_ (hK _ ?_) <;> clear hK <;> clear K
  · (first | exact trivial | omega | (simp only [In64] at *; omega) | (simp [In64] at *; omega) | (simp_all; done) | skip)
  refine qa (qm ?_)
  refine hk_region fun K hK => runs_eval tab_ok ?_
  simp only [ev0, evA, evB, evP, fl, gp, tab, simprocAttr, reduceCtorEq, reduceIte]
  refine fin_run ?_ (hK _ ?_) <;> clear hK <;> clear K
  · (first | exact trivial | omega | (simp only [In64] at *; omega) | (simp [In64] at *; omega) | (simp_all; done) | skip)
  refine qa ?_
  refine hk_cond rfl (fun hC1 => ?_) (fun hC1 => ?_)
  · (try simp only [nhs] at hC1)
    refine qm ?_
    refine hk_draw2 mixed fun K hK => runs2_eval tab_ok ?_
    simp only [evD, ev0, evA, evB, evP, fl, gp, tab, simprocAttr, reduceCtorEq, reduceIte]
    refine fin2_run ?_ (hK _ _ (by first | kernel_rfl | rfl) ?_) <;> clear hK <;> clear K
    · (first | exact trivial | omega | (simp only [In64] at *; omega) | (simp [In64] at *; omega) | (simp_all; done) | skip)
    refine qa (qk (qb ?_))
    simp only [Tryd.results57, enA, ev0, evA, evB, evP, fl, gp, tab, simprocAttr, reduceCtorEq, reduceIte]
    all_goals (simp [il])
  · (try simp only [nhs] at hC1)
    exact absurd hC1 hw

set_option maxHeartbeats 4000000 in
theorem part_ok {n e : Nat} {m : List Int} (h : GT n m n e) (p : Nat → Bool) (hs : Sub n (op m n) e p) : FnC Tryd.prog 57 [gp n m, .list (il (thl n p))] (.tup [gp (thl n p).length (ptb n (op m n) p), fl (0, 0)]) := by
  have G := h.2.2
  have hb := h.2.1.big
  have hlp := thl_le n p
  have hsq := sq_le (show (thl n p).length ≤ 60 by omega)
  have hlen := tbr_len (fun i j => ((pop n (op m n) p i j : Nat) : Int)) (thl n p).length
  refine fnc_of tab_ok Tryd.func57 rfl (by kernel_rfl) (by rw [Tryd.ntmps57]; exact Nat.le_add_left 2 _) ?_; rw [Tryd.ntmps57]
  refine qm ?_
  refine hk_region fun K hK => runs_eval tab_ok ?_
  simp only [ev0, evA, evB, evP, fl, gp, tab, simprocAttr, reduceCtorEq, reduceIte]
  refine fin_run ?_ (hK _ ?_) <;> clear hK <;> clear K
  · (first | exact trivial | omega | (simp only [In64] at *; omega) | (simp [In64] at *; omega) | (simp_all; done) | skip)
  refine qa (qm (qm ?_))
  refine hk_region fun K hK => runs_eval tab_ok ?_
  simp only [ev0, evA, evB, evP, fl, gp, tab, simprocAttr, reduceCtorEq, reduceIte]
  refine fin_stop trivial (runs_call (group_ok h p true (by simp [hs])) rfl rfl rfl (by simp only [dstOk, Nat.reduceLT]) (by repeat (first | exact trivial | constructor)) (runs_eval tab_ok ?_))
  simp only [ev0, evA, evB, evP, fl, gp, tab, simprocAttr, reduceCtorEq, reduceIte, ufb]
  refine fin_run ?_ (hK _ ?_) <;> clear hK <;> clear K
  · (first | exact trivial | omega | (simp only [In64] at *; omega) | (simp [In64] at *; omega) | (simp_all; done) | skip)
  refine qa (qm ?_)
  refine hk_region fun K hK => runs_eval tab_ok ?_
  simp only [ev0, evA, evB, evP, fl, gp, tab, simprocAttr, reduceCtorEq, reduceIte]
  refine fin_run ?_ (hK _ ?_) <;> clear hK <;> clear K
  · (first | exact trivial | omega | (simp only [In64] at *; omega) | (simp [In64] at *; omega) | (simp_all; done) | skip)
  refine qa ?_
  refine hk_cond rfl (fun hC1 => ?_) (fun hC1 => ?_)
  · cases hC1
  · (try simp only [nhs] at hC1)
    refine qh (qa (qm ?_))
    refine hk_region fun K hK => runs_eval tab_ok ?_
    simp only [ev0, evA, evB, evP, fl, gp, tab, simprocAttr, reduceCtorEq, reduceIte]
    refine fin_run ?_ (hK _ ?_) <;> clear hK <;> clear K
    · (first | exact trivial | omega | (simp only [In64] at *; omega) | (simp [In64] at *; omega) | (simp_all; done) | skip)
    refine qa (qm (qm ?_))
    refine hk_region fun K hK => runs_eval tab_ok ?_
    simp only [ev0, evA, evB, evP, fl, gp, tab, simprocAttr, reduceCtorEq, reduceIte, il_length]
    refine fin_run trivial (hK _ ?_) <;> clear hK <;> clear K
    refine qa (ql ?_)
    refine hk_loop (ι := Nat) (fun i => ⟨65, [(1, .p (.list (il (thl n p)))), (2, .ptr 0 0), (4, .ptr 1 0), (5, .ptr 2 0), (7, .mptr 3), (24, .p (.list (il (thl n p)))), (25, .p (.int .i64 (thl n p).length)), (26, .p (.int .i64 i))], [.own [.p (.int .i64 n), .p (.list (il m))], .own [.p (.int .i64 0), .p .nil], .own [.p (.int .i64 0), .p (.int .i64 0)], .mp .i64 (mpd ((thl n p).take i)) (mpv ((thl n p).take i) (pxv p))]⟩) (fun i => i ≤ (thl n p).length) (fun i => (thl n p).length - i) 0 (Nat.zero_le _) [0, 1, 2, 4] (by simp only [leq, leA, ev0, evA, evB, evP, fl, gp, tab, simprocAttr, reduceCtorEq, reduceIte] <;> first | trivial | (rw [mpd_nil, mpv_nil]; rfl)) fun i hi => ?_
    refine qm ?_
    refine hk_region fun K hK => runs_eval tab_ok ?_
    simp only [ev0, evA, evB, evP, fl, gp, tab, simprocAttr, reduceCtorEq, reduceIte]
    refine fin_run trivial (hK _ ?_) <;> clear hK <;> clear K
    refine qa (qm ?_)
    refine hk_cond rfl (fun hC2 => ?_) (fun hC2 => ?_)
    · (try simp only [nhs] at hC2)
      have hlt : i < (thl n p).length := by omega
      obtain ⟨x1, x2, x3, x4⟩ := lat_at hlt
      refine qh (qa (qm (ql (qm ?_))))
      refine hk_region fun K hK => runs_eval tab_ok ?_
      simp only [ev0, evA, evB, evP, fl, gp, tab, simprocAttr, reduceCtorEq, reduceIte, il_get hlt, x3]
      refine fin_run ?_ (hK _ ?_) <;> clear hK <;> clear K
      · (first | exact trivial | omega | (simp only [In64] at *; omega) | (simp [In64] at *; omega) | (simp_all; done) | skip)
      refine qa ?_
      refine hk_region fun K hK => runs_eval tab_ok ?_
      simp only [ev0, evA, evB, evP, fl, gp, tab, simprocAttr, reduceCtorEq, reduceIte]
      refine fin_run ?_ (hK _ ?_) <;> clear hK <;> clear K
      · (first | exact trivial | omega | (simp only [In64] at *; omega) | (simp [In64] at *; omega) | (simp_all; done) | skip)
      refine qd (qa ?_)
      refine hk_region fun K hK => runs_eval tab_ok ?_
      simp only [ev0, evA, evB, evP, fl, gp, tab, simprocAttr, reduceCtorEq, reduceIte]
      refine fin_run ?_ (hK _ ?_) <;> clear hK <;> clear K
      · (first | exact trivial | omega | (simp only [In64] at *; omega) | (simp [In64] at *; omega) | (simp_all; done) | skip)
      refine qa ?_
      refine ⟨i + 1, [0, 1, 2, 3], by omega, by omega, ?_⟩
      have hd := mpd_set ((thl n p).take i) (lat n p i : Int)
      have hv := mpv_set ((thl n p).take i) (lat n p i : Int) (pxv p)
      have hx : pxv p (lat n p i : Int) = .int .i64 (i : Int) := by unfold pxv; rw [Int.toNat_natCast, x4]
      rw [hx] at hv
      rw [take_snoc hlt, x3]
      simp only [leq, leA, ev0, evA, evB, evP, fl, gp, tab, simprocAttr, reduceCtorEq, reduceIte] <;> first | trivial | omega | (rw [hd, hv])
    · (try simp only [nhs] at hC2)
      have hin : i = (thl n p).length := by omega
      rw [hin, List.take_length]
      refine qj (qc (qc (qf (qa (qm ?_)))))
      refine hk_region fun K hK => runs_eval tab_ok ?_
      simp only [ev0, evA, evB, evP, fl, gp, tab, simprocAttr, reduceCtorEq, reduceIte, il_length]
      refine fin_run ?_ (hK _ ?_) <;> clear hK <;> clear K
      · (first | exact trivial | omega | (simp only [In64] at *; omega) | (simp [In64] at *; omega) | (simp_all; done) | skip)
      refine qa (qm (qm ?_))
      refine hk_own0c 4 1 rfl rfl ?_
      simp only [hset, List.cons_append, List.nil_append, List.set, List.length_cons, List.length_nil]
      refine hk_region fun K hK => runs_eval tab_ok ?_
      simp only [ev0, evA, evB, evP, fl, gp, tab, simprocAttr, reduceCtorEq, reduceIte, il_length]
      refine fin_run trivial (hK _ ?_) <;> clear hK <;> clear K
      refine qa (ql ?_)
      refine hk_loop (ι := Nat) (fun i => ⟨65, [(1, .p (.list (il (thl n p)))), (2, .ptr 0 0), (4, .ptr 1 0), (5, .ptr 2 0), (7, .mptr 3), (10, .ptr 4 0), (38, .p (.list (il (thl n p)))), (39, .p (.int .i64 (thl n p).length)), (40, .p (.int .i64 i))], [.own [.p (.int .i64 n), .p (.list (il m))], .own [.p (.int .i64 0), .p .nil], .own [.p (.int .i64 0), .p (.int .i64 0)], .mp .i64 (mpd (thl n p)) (mpv (thl n p) (pxv p)), .own [.p (.int .i64 (thl n p).length), .sl 5 0 (tbr (fun i j => ((pop n (op m n) p i j : Nat) : Int)) (thl n p).length (i * (thl n p).length)).length], .own (ol (tbr (fun i j => ((pop n (op m n) p i j : Nat) : Int)) (thl n p).length (i * (thl n p).length)))]⟩) (fun i => i ≤ (thl n p).length) (fun i => (thl n p).length - i) 0 (Nat.zero_le _) [0, 1, 2, 3, 4, 5] (by rw [Nat.zero_mul]; simp only [leq, leA, ev0, evA, evB, evP, fl, gp, tab, simprocAttr, reduceCtorEq, reduceIte] <;> first | trivial | simp [tbr, rg, ol_nil]) fun i hi => ?_
      refine qm ?_
      refine hk_region fun K hK => runs_eval tab_ok ?_
      simp only [ev0, evA, evB, evP, fl, gp, tab, simprocAttr, reduceCtorEq, reduceIte]
      refine fin_run trivial (hK _ ?_) <;> clear hK <;> clear K
      refine qa (qm ?_)
      refine hk_cond rfl (fun hC3 => ?_) (fun hC3 => ?_)
      · (try simp only [nhs] at hC3)
        have hlt : i < (thl n p).length := by omega
        obtain ⟨x1, x2, x3, x4⟩ := lat_at hlt
        refine qh (qa (qm (ql (qm ?_))))
        refine hk_region fun K hK => runs_eval tab_ok ?_
        simp only [ev0, evA, evB, evP, fl, gp, tab, simprocAttr, reduceCtorEq, reduceIte, il_get hlt, x3]
        refine fin_run ?_ (hK _ ?_) <;> clear hK <;> clear K
        · (first | exact trivial | omega | (simp only [In64] at *; omega) | (simp [In64] at *; omega) | (simp_all; done) | skip)
        refine qa (qm ?_)
        refine hk_region fun K hK => runs_eval tab_ok ?_
        simp only [ev0, evA, evB, evP, fl, gp, tab, simprocAttr, reduceCtorEq, reduceIte, il_length]
        refine fin_run trivial (hK _ ?_) <;> clear hK <;> clear K
        refine qa (ql ?_)
        refine hk_loop (ι := Nat) (fun j => ⟨65, [(1, .p (.list (il (thl n p)))), (2, .ptr 0 0), (4, .ptr 1 0), (5, .ptr 2 0), (7, .mptr 3), (10, .ptr 4 0), (12, .p (.int .i64 (lat n p i : Nat))), (38, .p (.list (il (thl n p)))), (39, .p (.int .i64 (thl n p).length)), (40, .p (.int .i64 i)), (44, .p (.list (il (thl n p)))), (45, .p (.int .i64 (thl n p).length)), (46, .p (.int .i64 j))], [.own [.p (.int .i64 n), .p (.list (il m))], .own [.p (.int .i64 0), .p .nil], .own [.p (.int .i64 0), .p (.int .i64 0)], .mp .i64 (mpd (thl n p)) (mpv (thl n p) (pxv p)), .own [.p (.int .i64 (thl n p).length), .sl 5 0 (tbr (fun i j => ((pop n (op m n) p i j : Nat) : Int)) (thl n p).length (i * (thl n p).length + j)).length], .own (ol (tbr (fun i j => ((pop n (op m n) p i j : Nat) : Int)) (thl n p).length (i * (thl n p).length + j)))]⟩) (fun j => j ≤ (thl n p).length) (fun j => (thl n p).length - j) 0 (Nat.zero_le _) [0, 1, 2, 3, 4, 5] (by rw [Nat.add_zero]; simp only [leq, leA, ev0, evA, evB, evP, fl, gp, tab, simprocAttr, reduceCtorEq, reduceIte] <;> trivial) fun j hj => ?_
        refine qm ?_
        refine hk_region fun K hK => runs_eval tab_ok ?_
        simp only [ev0, evA, evB, evP, fl, gp, tab, simprocAttr, reduceCtorEq, reduceIte]
        refine fin_run trivial (hK _ ?_) <;> clear hK <;> clear K
        refine qa (qm ?_)
        refine hk_cond rfl (fun hC4 => ?_) (fun hC4 => ?_)
        · (try simp only [nhs] at hC4)
          have hjl : j < (thl n p).length := by omega
          obtain ⟨y1, y2, y3, y4⟩ := lat_at hjl
          have hxy := G.cl _ _ x1 y1
          have hmem := (mem_thl_n hxy).2 (hs.mul _ _ x1 y1 x2 y2)
          have hin := mpd_in hmem
          have hvv := mpv_in (pxv p) hmem
          have hpx : pxv p ((op m n (lat n p i) (lat n p j) : Nat) : Int) = .int .i64 ((pop n (op m n) p i j : Nat) : Int) := by unfold pxv; rw [Int.toNat_natCast]; rfl
          have hat := at_lt hlt hjl
          have hl := hlen (i * (thl n p).length + j)
          refine qh (qa (qm (ql (qm ?_))))
          refine hk_region fun K hK => runs_eval tab_ok ?_
          simp only [ev0, evA, evB, evP, fl, gp, tab, simprocAttr, reduceCtorEq, reduceIte, il_get hjl, y3]
          refine fin_run ?_ (hK _ ?_) <;> clear hK <;> clear K
          · (first | exact trivial | omega | (simp only [In64] at *; omega) | (simp [In64] at *; omega) | (simp_all; done) | skip)
          refine qa ?_
          refine hk_draw2 mixed fun K hK => runs2_eval tab_ok ?_
          simp only [evD, ev0, evA, evB, evP, fl, gp, tab, simprocAttr, reduceCtorEq, reduceIte]
          refine fin2_stop trivial (runs2_call (of_c h.2.1 x1 y1) rfl rfl rfl rfl (by simp only [dstOk, Nat.reduceLT]) (by repeat (first | exact trivial | constructor)) (runs2_eval tab_ok ?_))
          simp only [evD, ev0, evA, evB, evP, fl, gp, tab, simprocAttr, reduceCtorEq, reduceIte, hin, cond_true, hvv, hpx]
          refine fin2_run ?_ (hK _ _ (by first | kernel_rfl | rfl) ?_) <;> clear hK <;> clear K
          · (first | exact trivial | omega | (simp only [In64] at *; omega) | (simp [In64] at *; omega) | (simp_all; done) | skip)
          refine qd (qa ?_)
          refine hk_region fun K hK => runs_eval tab_ok ?_
          simp only [ev0, evA, evB, evP, fl, gp, tab, simprocAttr, reduceCtorEq, reduceIte]
          refine fin_run ?_ (hK _ ?_) <;> clear hK <;> clear K
          · (first | exact trivial | omega | (simp only [In64] at *; omega) | (simp [In64] at *; omega) | (simp_all; done) | skip)
          refine qa ?_
          refine ⟨j + 1, [0, 1, 2, 3, 4, 6], by omega, by omega, ?_⟩
          rw [tbr_succ (fun i j => ((pop n (op m n) p i j : Nat) : Int)) hjl]
          simp only [leq, leA, ev0, evA, evB, evP, fl, gp, tab, simprocAttr, reduceCtorEq, reduceIte] <;> first | trivial | omega
        · (try simp only [nhs] at hC4)
          have hjn : j = (thl n p).length := by omega
          refine qj (qc (qc (qf (qd (qa ?_)))))
          refine hk_region fun K hK => runs_eval tab_ok ?_
          simp only [ev0, evA, evB, evP, fl, gp, tab, simprocAttr, reduceCtorEq, reduceIte]
          refine fin_run ?_ (hK _ ?_) <;> clear hK <;> clear K
          · (first | exact trivial | omega | (simp only [In64] at *; omega) | (simp [In64] at *; omega) | (simp_all; done) | skip)
          refine qa ?_
          refine ⟨i + 1, [0, 1, 2, 3, 4, 5], by omega, by omega, ?_⟩
          rw [hjn, show (i + 1) * (thl n p).length = i * (thl n p).length + (thl n p).length by rw [Nat.add_mul, Nat.one_mul]]
          simp only [leq, leA, ev0, evA, evB, evP, fl, gp, tab, simprocAttr, reduceCtorEq, reduceIte] <;> first | trivial | omega
      · (try simp only [nhs] at hC3)
        have hin : i = (thl n p).length := by omega
        refine qj (qc (qc (qf (qa (qm ?_)))))
        refine hk_region fun K hK => runs_eval tab_ok ?_
        simp only [ev0, evA, evB, evP, fl, gp, tab, simprocAttr, reduceCtorEq, reduceIte]
        refine fin_run ?_ (hK _ ?_) <;> clear hK <;> clear K
        · (first | exact trivial | omega | (simp only [In64] at *; omega) | (simp [In64] at *; omega) | (simp_all; done) | skip)
        refine qa (qk ?_)
        simp only [Tryd.results57, enA, ev0, evA, evB, evP, fl, gp, tab, simprocAttr, reduceCtorEq, reduceIte]
        all_goals (simp [hin, tbl, ptb])
end Go.Proofs.YtjikchbmkodgfaaDoor
