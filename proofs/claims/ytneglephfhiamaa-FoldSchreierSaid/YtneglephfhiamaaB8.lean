/-
  Texts of this proof, one behind the other: what each says stands at its head. Conditions: none.
-/
import Derived.Test.YtneglephfhiamaaB7
import Derived.Test.YtneglephfhiamaaB6
import Derived.Test.YtneglephfhiamaaB4

/-
  Graphs of words: the walk of Index. Conditions: none.
-/
set_option linter.all false
namespace Go.Proofs.Ytneglephfhiamaa
open Go.Pv

/-- Has a word a letter above n? -/
def badW (n : Int) (w : List Int) : Bool := (short w).any fun x => decide (n < max x (-x))
def badF (n : Int) (L : List (List Int)) : Int × Int := if L.findIdx (badW n) < L.length then (4, ((L.findIdx (badW n) : Nat) : Int)) else (0, 0)
def idxF (L : List (List Int)) (n : Int) : Int × Int := if (ckL L).1 ≠ 0 then ckL L else if n < 1 ∨ 26 < n then (3, 1) else badF n L
noncomputable def indexS (L : List (List Int)) (n : Int) : Int × (Int × Int) := ((if (idxF L n).1 ≠ 0 then 0 else if eS (L.map short) = n.toNat * vS (L.map short) then (vS (L.map short) : Int) else 0), idxF L n)

section
variable {G : List Mp} {U : List Int}
/-- Reaching all places of what has been folded, in a region of its own. -/
theorem reach_ES {s : St} {o : Oper} {fo : Operand} {args : Array Operand} {ts : Array TypeId} {Q : Heap} (ho : o.op = .call { callee := .value fo, args := args, argTypes := ts }) (hfo : s.ev fo = .p (.fn 55 []))
    (w0 : WG G U) (hp : 0 < G.length) (hs : SymW G U []) (hk : G.length ≤ 10000001) (hH : s.H = Q ++ (GB G U).map (Blk.ren (List.range' Q.length (GB G U).length))) (hargs : args.toList.map s.ev ++ ([] : List PV).map .p = [.ptr Q.length 0]) :
    DoesE Try.prog o s (fun av H' => ∃ (lst : List Nat) (f : Wy) (U' : List Int), av = .tup [.p (.list (il (lst.map Int.ofNat))), .mptr (Q.length + (G.length + 3))] ∧ H' = Q ++ (GB G U' ++ [wayB f]).map (Blk.ren (List.range' Q.length (GB G U' ++ [wayB f]).length)) ∧
      GT (stR G U) lst f ∧ (∀ u ∈ lst, u < G.length ∧ rV U u = u) ∧ ∀ u ∈ lst, ∀ w, runW (stR G U) 0 w = some u → (wy f u).length ≤ w.length) := by
  have h0 : (List.range' Q.length (GB G U).length).getD 0 0 = Q.length := by
    rw [List.getD_eq_getElem?_getD, List.getElem?_range' (by rw [GB_len]; omega)]; simp
  have := call_doesES ho hfo (reach_e w0 hp (by omega)) hH (by
    rw [hargs]
    refine ⟨⟨?_, ?_⟩, trivial⟩
    · simp only [Go.Pv.ren, ren1, h0]
    · rw [List.length_range', GB_len]; simp [scA, sc1]) (by rw [GB_len]; exact GB_hsc (Nat.le_refl _)) GB_na (by
    rintro r H1 ⟨lst, f, U', rfl, rfl, _⟩
    exact GBw_scM)
  intro C m a w K R0 R hK
  refine this C m a w K R0 R fun v m' w' av H' ⟨r, H1, ⟨lst, f, U', e0, e1, ⟨w1, r1⟩, bi, bq⟩, e3, e4⟩ R2 hv => hK v m' w' av H' ⟨lst, f, U', ?_, ?_, ?_⟩ R2 hv
  · have hl : H1.length = G.length + 4 := by rw [e1, List.length_append, GB_len]; rfl
    have hq : (List.range' Q.length H1.length).getD (G.length + 3) 0 = Q.length + (G.length + 3) := by
      rw [List.getD_eq_getElem?_getD, List.getElem?_range' (by omega)]; simp
    rw [e3, e0]
    simp only [Go.Pv.ren, ren1, List.map_cons, List.map_nil, hq]
  · rw [e4, e1]
  · have hs1 : SymW G U' [] := fun u x v hu hv e => by
      rw [pe_nil, Ed.rv w0 r1 hu hv] at e
      rw [pe_nil, Ed.rv w0 r1 hv hu]
      exact pe_nil.1 (hs u x v hu hv (pe_nil.2 e))
    obtain ⟨g, hf⟩ := bq_gt w1 hp hs1 bi bq
    rw [stR_eq w0 r1] at g hf
    exact ⟨g, fun u hu => ⟨(bi.rt u hu).1, by rw [← r1 u (bi.rt u hu).1]; exact (bi.rt u hu).2⟩, hf⟩
theorem mpLen_lts (f : Mp) (h : ∀ x d, f x = some d → -26 ≤ x ∧ x ≤ 26) : mpLen (fun z => (f z).isSome) = (lts f).length := by
  refine mpLen_eq ?_ fun z => ?_
  · exact List.Nodup.sublist List.filter_sublist (nodup_mapF List.nodup_range fun a _ b _ e => by omega)
  · rw [mem_lts]
    constructor
    · exact fun h => h.2
    · intro hz
      obtain ⟨d, hd⟩ := Option.isSome_iff_exists.1 hz
      exact ⟨h z d hd, hz⟩
end

theorem badF_at {n : Int} {L : List (List Int)} {i : Nat} (hi : i < L.length) (h1 : badW n (L.getD i []) = true) (h2 : ∀ k, k < i → badW n (L.getD k []) = false) : badF n L = (4, ((i : Nat) : Int)) := by
  have hx : L.findIdx (badW n) = i := by
    rw [List.findIdx_eq hi]
    refine ⟨?_, fun j hj => ?_⟩
    · rw [List.getD_eq_getElem?_getD, List.getElem?_eq_getElem hi] at h1; exact h1
    · have := h2 j hj
      rwa [List.getD_eq_getElem?_getD, List.getElem?_eq_getElem (by omega)] at this
  unfold badF
  rw [hx, if_pos hi]
theorem badF_none {n : Int} {L : List (List Int)} (h2 : ∀ k, k < L.length → badW n (L.getD k []) = false) : badF n L = (0, 0) := by
  have hx : L.findIdx (badW n) = L.length := by
    rw [List.findIdx_eq_length]
    intro w hw
    obtain ⟨j, hj, rfl⟩ := List.getElem_of_mem hw
    have := h2 j hj
    rwa [List.getD_eq_getElem?_getD, List.getElem?_eq_getElem hj] at this
  unfold badF
  rw [hx, if_neg (Nat.lt_irrefl _)]

set_option maxHeartbeats 4000000 in
set_option maxRecDepth 20000 in
theorem index_c (L : List (List Int)) (n : Int) (hl : L.length ≤ 1000000000) (hw : ∀ w ∈ L, w.length ≤ 1000000000) (hgood : (ckL L).1 = 0 → Good L) :
    FnC Try.prog 24 [.list (ll L), .int .i64 n] (.tup [.int .i64 (indexS L n).1, fl (indexS L n).2]) := by
  refine fnc_of tab_ok Try.func24 rfl (by kernel_rfl) (by rw [Try.ntmps24]; exact Nat.le_add_left 2 _) ?_; rw [Try.ntmps24]
  refine qm ?_
  refine hk_region fun K hK => runs_eval tab_ok ?_
  simp only [ev0, evA, evB, evP, fl, gp, tab, simprocAttr, reduceCtorEq, reduceIte]
  refine fin_run ?_ (hK _ ?_) <;> clear hK <;> clear K
  · (first | exact trivial | omega | (simp only [In64] at *; omega) | (simp [In64] at *; omega) | (simp_all; done) | skip)
  refine qa (qm (qm ?_))
  refine hk_region fun K hK => runs_eval tab_ok ?_
  simp only [ev0, evA, evB, evP, fl, gp, tab, simprocAttr, reduceCtorEq, reduceIte]
  refine fin_stop trivial (runs_call (checkL_c L hl hw) rfl rfl rfl (by simp only [dstOk, Nat.reduceLT]) (by repeat (first | exact trivial | constructor)) (runs_eval tab_ok ?_))
  simp only [ev0, evA, evB, evP, fl, gp, tab, simprocAttr, reduceCtorEq, reduceIte]
  refine fin_run ?_ (hK _ ?_) <;> clear hK <;> clear K
  · (first | exact trivial | omega | (simp only [In64] at *; omega) | (simp [In64] at *; omega) | (simp_all; done) | skip)
  refine qa (qm ?_)
  refine hk_region fun K hK => runs_eval tab_ok ?_
  simp only [ev0, evA, evB, evP, fl, gp, tab, simprocAttr, reduceCtorEq, reduceIte]
  refine fin_run ?_ (hK _ ?_) <;> clear hK <;> clear K
  · (first | exact trivial | omega | (simp only [In64] at *; omega) | (simp [In64] at *; omega) | (simp_all; done) | skip)
  refine qa ?_
  refine hk_cond rfl (fun hC1 => ?_) (fun hC1 => ?_)
  · (try simp only [nhs] at hC1)
    have h1 : (ckL L).1 ≠ 0 := hC1
    have hs : indexS L n = (0, ckL L) := by unfold indexS idxF; simp only [if_pos h1]
    refine qm ?_
    refine hk_draw mixed (by kernel_rfl) fun K hK => runs_eval tab_ok ?_
    simp only [ev0, evA, evB, evP, fl, gp, tab, simprocAttr, reduceCtorEq, reduceIte]
    refine fin_run ?_ (hK _ ?_) <;> clear hK <;> clear K
    · (first | exact trivial | omega | (simp only [In64] at *; omega) | (simp [In64] at *; omega) | (simp_all; done) | skip)
    refine qa (qk (qb ?_))
    simp only [Try.results24, enA, ev0, evA, evB, evP, fl, gp, tab, simprocAttr, reduceCtorEq, reduceIte]
    all_goals (rw [hs]; exact ⟨rfl, rfl, rfl⟩)
  · (try simp only [nhs] at hC1)
    have h1 : (ckL L).1 = 0 := by simpa using hC1
    obtain ⟨g1, g2, g3⟩ := hgood h1
    refine qh (qa (qm (qm ?_)))
    by_cases g4a : n < 1
    · refine hk_region fun K hK => runs_eval tab_ok ?_
      simp only [ev0, evA, evB, evP, fl, gp, tab, simprocAttr, reduceCtorEq, reduceIte, decide_eq_true g4a]
      refine fin_run trivial (hK _ ?_) <;> clear hK <;> clear K
      refine qa ?_
      refine hk_cond rfl (fun hC2 => ?_) (fun hC2 => ?_)
      · have h2 : n < 1 ∨ 26 < n := by first | exact .inl g4a | exact .inr (by simpa using hC2)
        have hs : indexS L n = (0, (3, 1)) := by
          have : idxF L n = (3, 1) := by unfold idxF; rw [if_neg (fun h => h h1), if_pos h2]
          unfold indexS; rw [this]; rfl
        refine qm ?_
        refine hk_region fun K hK => runs_eval tab_ok ?_
        simp only [ev0, evA, evB, evP, fl, gp, tab, simprocAttr, reduceCtorEq, reduceIte]
        refine fin_stop trivial (runs_call (ffault_c 3 1) rfl rfl rfl (by simp only [dstOk, Nat.reduceLT]) (by repeat (first | exact trivial | constructor)) (runs_eval tab_ok ?_))
        simp only [ev0, evA, evB, evP, fl, gp, tab, simprocAttr, reduceCtorEq, reduceIte]
        refine fin_run ?_ (hK _ ?_) <;> clear hK <;> clear K
        · (first | exact trivial | omega | (simp only [In64] at *; omega) | (simp [In64] at *; omega) | (simp_all; done) | skip)
        refine qa (qk (qb ?_))
        simp only [Try.results24, enA, ev0, evA, evB, evP, fl, gp, tab, simprocAttr, reduceCtorEq, reduceIte]
        all_goals (rw [hs]; exact ⟨rfl, rfl, rfl⟩)
      · cases hC2
    · refine hk_region fun K hK => runs_eval tab_ok ?_
      simp only [ev0, evA, evB, evP, fl, gp, tab, simprocAttr, reduceCtorEq, reduceIte, decide_eq_false g4a]
      refine fin_run trivial (hK _ ?_) <;> clear hK <;> clear K
      refine qa ?_
      refine hk_cond rfl (fun hC2 => ?_) (fun hC2 => ?_)
      · (try simp only [nhs] at hC2)
        have h2 : n < 1 ∨ 26 < n := by first | exact .inl g4a | exact .inr (by simpa using hC2)
        have hs : indexS L n = (0, (3, 1)) := by
          have : idxF L n = (3, 1) := by unfold idxF; rw [if_neg (fun h => h h1), if_pos h2]
          unfold indexS; rw [this]; rfl
        refine qm ?_
        refine hk_region fun K hK => runs_eval tab_ok ?_
        simp only [ev0, evA, evB, evP, fl, gp, tab, simprocAttr, reduceCtorEq, reduceIte]
        refine fin_stop trivial (runs_call (ffault_c 3 1) rfl rfl rfl (by simp only [dstOk, Nat.reduceLT]) (by repeat (first | exact trivial | constructor)) (runs_eval tab_ok ?_))
        simp only [ev0, evA, evB, evP, fl, gp, tab, simprocAttr, reduceCtorEq, reduceIte]
        refine fin_run ?_ (hK _ ?_) <;> clear hK <;> clear K
        · (first | exact trivial | omega | (simp only [In64] at *; omega) | (simp [In64] at *; omega) | (simp_all; done) | skip)
        refine qa (qk (qb ?_))
        simp only [Try.results24, enA, ev0, evA, evB, evP, fl, gp, tab, simprocAttr, reduceCtorEq, reduceIte]
        all_goals (rw [hs]; exact ⟨rfl, rfl, rfl⟩)
      · (try simp only [nhs] at hC2)
        have h2 : ¬ (n < 1 ∨ 26 < n) := by
          have h3 : ¬ 26 < n := by simpa using hC2
          omega
        have hi0 : idxF L n = badF n L := by unfold idxF; rw [if_neg (fun h => h h1), if_neg h2]
        refine qh (qa (qm (qm ?_)))
        refine hk_region fun K hK => runs_eval tab_ok ?_
        simp only [ev0, evA, evB, evP, fl, gp, tab, simprocAttr, reduceCtorEq, reduceIte, ll_length]
        refine fin_run trivial (hK _ ?_) <;> clear hK <;> clear K
        refine qa (ql ?_)
        refine hk_loop (ι := Nat) (fun i => ⟨82, [(0, .p (.list (ll L))), (1, .p (.int .i64 n)), (5, .ptr 0 0), (29, .p (.list (ll L))), (30, .p (.int .i64 L.length)), (31, .p (.int .i64 (i : Nat)))], [.own [.p (.int .i64 0), .p (.int .i64 0)]]⟩) (fun i => i ≤ L.length ∧ ∀ k, k < i → badW n (L.getD k []) = false) (fun i => L.length - i) 0 ⟨Nat.zero_le _, fun k hk => absurd hk (Nat.not_lt_zero _)⟩ [0] (by simp only [leq, leA, ev0, evA, evB, evP, fl, gp, tab, simprocAttr, reduceCtorEq, reduceIte] <;> trivial) fun i hi => ?_
        obtain ⟨q1, q2⟩ := hi
        refine qm ?_
        refine hk_region fun K hK => runs_eval tab_ok ?_
        simp only [ev0, evA, evB, evP, fl, gp, tab, simprocAttr, reduceCtorEq, reduceIte]
        refine fin_run trivial (hK _ ?_) <;> clear hK <;> clear K
        refine qa (qm ?_)
        refine hk_cond rfl (fun hC3 => ?_) (fun hC3 => ?_)
        · (try simp only [nhs] at hC3)
          have hi : i < L.length := by omega
          obtain ⟨w0, hw0⟩ : ∃ w, L.getD i [] = w := ⟨_, rfl⟩
          have hwm : w0 ∈ L := by rw [← hw0, List.getD_eq_getElem?_getD, List.getElem?_eq_getElem hi]; exact List.getElem_mem hi
          obtain ⟨hw1, hw2⟩ := g1 w0 hwm
          obtain ⟨w, hws⟩ : ∃ w, short w0 = w := ⟨_, rfl⟩
          have hwl : Lt26 w := hws ▸ short_lt hw2
          have hwn : w.length ≤ 1000000000 := hws ▸ Nat.le_trans (short_len w0) hw1
          refine qh (qa (qm (ql (qm ?_))))
          refine hk_region fun K hK => runs_eval tab_ok ?_
          simp only [ev0, evA, evB, evP, fl, gp, tab, simprocAttr, reduceCtorEq, reduceIte, ll_length, ll_get hi, hw0]
          refine fin_run ?_ (hK _ ?_) <;> clear hK <;> clear K
          · omega
          refine qa (qm ?_)
          refine hk_region fun K hK => runs_eval tab_ok ?_
          simp only [ev0, evA, evB, evP, fl, gp, tab, simprocAttr, reduceCtorEq, reduceIte, hws, il_length]
          refine fin_stop trivial (runs_call (short_c w0 hw1 (fun x hx => (hw2 x hx).2)) rfl rfl rfl (by simp only [dstOk, Nat.reduceLT]) (by repeat (first | exact trivial | constructor)) (runs_eval tab_ok ?_))
          simp only [ev0, evA, evB, evP, fl, gp, tab, simprocAttr, reduceCtorEq, reduceIte, hws, il_length]
          refine fin_run trivial (hK _ ?_) <;> clear hK <;> clear K
          refine qa (ql ?_)
          refine hk_loop (ι := Nat) (fun j => ⟨82, [(0, .p (.list (ll L))), (1, .p (.int .i64 n)), (5, .ptr 0 0), (7, .p (.int .i64 (i : Nat))), (29, .p (.list (ll L))), (30, .p (.int .i64 L.length)), (31, .p (.int .i64 (i : Nat))), (37, .p (.list (il w))), (38, .p (.int .i64 w.length)), (39, .p (.int .i64 (j : Nat)))], [.own [.p (.int .i64 0), .p (.int .i64 0)]]⟩) (fun j => j ≤ w.length ∧ ∀ k, k < j → ¬ n < max (w.getD k 0) (-(w.getD k 0))) (fun j => w.length - j) 0 ⟨Nat.zero_le _, fun k hk => absurd hk (Nat.not_lt_zero _)⟩ [0] (by simp only [leq, leA, ev0, evA, evB, evP, fl, gp, tab, simprocAttr, reduceCtorEq, reduceIte] <;> trivial) fun j hj => ?_
          obtain ⟨p1, p2⟩ := hj
          refine qm ?_
          refine hk_region fun K hK => runs_eval tab_ok ?_
          simp only [ev0, evA, evB, evP, fl, gp, tab, simprocAttr, reduceCtorEq, reduceIte]
          refine fin_run trivial (hK _ ?_) <;> clear hK <;> clear K
          refine qa (qm ?_)
          refine hk_cond rfl (fun hC4 => ?_) (fun hC4 => ?_)
          · (try simp only [nhs] at hC4)
            have hj : j < w.length := by omega
            obtain ⟨x, hx⟩ : ∃ x, w.getD j 0 = x := ⟨_, rfl⟩
            have hxm : x ∈ w := by rw [← hx, List.getD_eq_getElem?_getD, List.getElem?_eq_getElem hj]; exact List.getElem_mem hj
            obtain ⟨x0, x1, x2⟩ := hwl x hxm
            refine qh (qa (qm (ql (qm ?_))))
            refine hk_region fun K hK => runs_eval tab_ok ?_
            simp only [ev0, evA, evB, evP, fl, gp, tab, simprocAttr, reduceCtorEq, reduceIte, il_length, il_get hj, hx]
            refine fin_run ?_ (hK _ ?_) <;> clear hK <;> clear K
            · omega
            refine qa (qm ?_)
            refine hk_region fun K hK => runs_eval tab_ok ?_
            simp only [ev0, evA, evB, evP, fl, gp, tab, simprocAttr, reduceCtorEq, reduceIte]
            refine fin_run ?_ (hK _ ?_) <;> clear hK <;> clear K
            · (first | exact trivial | omega | (simp only [In64] at *; omega) | (simp [In64] at *; omega) | (simp_all; done) | skip)
            refine qa ?_
            refine hk_cond rfl (fun hC5 => ?_) (fun hC5 => ?_)
            · (try simp only [nhs] at hC5)
              have hbad : n < max x (-x) := by
                have h : n < if x < -x then -x else x := by simpa using hC5
                split at h <;> omega
              have hb : badW n (L.getD i []) = true := by
                unfold badW
                rw [hw0, hws, List.any_eq_true]
                exact ⟨x, hxm, by simpa using hbad⟩
              have hs : indexS L n = (0, (4, (i : Int))) := by
                have : idxF L n = (4, (i : Int)) := by rw [hi0]; exact badF_at hi hb q2
                unfold indexS; rw [this]; rfl
              refine qm ?_
              refine hk_region fun K hK => runs_eval tab_ok ?_
              simp only [ev0, evA, evB, evP, fl, gp, tab, simprocAttr, reduceCtorEq, reduceIte]
              refine fin_stop trivial (runs_call (ffault_c 4 i) rfl rfl rfl (by simp only [dstOk, Nat.reduceLT]) (by repeat (first | exact trivial | constructor)) (runs_eval tab_ok ?_))
              simp only [ev0, evA, evB, evP, fl, gp, tab, simprocAttr, reduceCtorEq, reduceIte]
              refine fin_run ?_ (hK _ ?_) <;> clear hK <;> clear K
              · (first | exact trivial | omega | (simp only [In64] at *; omega) | (simp [In64] at *; omega) | (simp_all; done) | skip)
              refine qa (qk (qe (qb (qb (qe (qe (qb (qb (qe (qb ?_))))))))))
              simp only [Try.results24, enA, ev0, evA, evB, evP, fl, gp, tab, simprocAttr, reduceCtorEq, reduceIte]
              all_goals (rw [hs]; exact ⟨rfl, rfl, rfl⟩)
            · (try simp only [nhs] at hC5)
              have hgood2 : ¬ n < max x (-x) := by
                have h : ¬ n < if x < -x then -x else x := by simpa using hC5
                split at h <;> omega
              refine qh (qd (qa ?_))
              refine hk_region fun K hK => runs_eval tab_ok ?_
              simp only [ev0, evA, evB, evP, fl, gp, tab, simprocAttr, reduceCtorEq, reduceIte]
              refine fin_run ?_ (hK _ ?_) <;> clear hK <;> clear K
              · (first | exact trivial | omega | (simp only [In64] at *; omega) | (simp [In64] at *; omega) | (simp_all; done) | skip)
              refine qa ?_
              refine ⟨j + 1, [0], ⟨by omega, fun k hk => ?_⟩, by omega, by simp only [leq, leA, ev0, evA, evB, evP, fl, gp, tab, simprocAttr, reduceCtorEq, reduceIte] <;> trivial⟩
              by_cases h : k < j
              · exact p2 k h
              · obtain rfl : k = j := by omega
                rw [hx]; exact hgood2
          · (try simp only [nhs] at hC4)
            refine qj (qc (qc (qf (qd (qa ?_)))))
            refine hk_region fun K hK => runs_eval tab_ok ?_
            simp only [ev0, evA, evB, evP, fl, gp, tab, simprocAttr, reduceCtorEq, reduceIte]
            refine fin_run ?_ (hK _ ?_) <;> clear hK <;> clear K
            · (first | exact trivial | omega | (simp only [In64] at *; omega) | (simp [In64] at *; omega) | (simp_all; done) | skip)
            refine qa ?_
            refine ⟨i + 1, [0], ⟨by omega, fun k hk => ?_⟩, by omega, by simp only [leq, leA, ev0, evA, evB, evP, fl, gp, tab, simprocAttr, reduceCtorEq, reduceIte] <;> trivial⟩
            by_cases h : k < i
            · exact q2 k h
            · obtain rfl : k = i := by omega
              unfold badW
              rw [hw0, hws, List.any_eq_false]
              intro x hxm
              obtain ⟨k, hk, rfl⟩ := List.getElem_of_mem hxm
              have := p2 k (by omega)
              rw [List.getD_eq_getElem?_getD, List.getElem?_eq_getElem hk] at this
              simpa using this
        · (try simp only [nhs] at hC3)
          have hie : i = L.length := by omega
          rw [hie] at q2
          have hf0 : idxF L n = (0, 0) := by rw [hi0]; exact badF_none q2
          obtain ⟨m, rfl⟩ := Int.eq_ofNat_of_zero_le (show 0 ≤ n by omega)
          have hlet : ∀ s ∈ L.map short, ∀ x ∈ s, -(m : Int) ≤ x ∧ x ≤ m := fun s hs x hx => by
            obtain ⟨w, hwm, rfl⟩ := List.mem_map.1 hs
            obtain ⟨k, hk, rfl⟩ := List.getElem_of_mem hwm
            have := q2 k hk
            rw [List.getD_eq_getElem?_getD, List.getElem?_eq_getElem hk] at this
            unfold badW at this
            rw [List.any_eq_false] at this
            have := this x hx
            simp only [decide_eq_true_eq] at this
            have h3 : max x (-x) ≤ (m : Int) := by simpa using this
            omega
          refine qj (qc (qc (qf (qa (qm ?_)))))
          refine hk_regE 1 (runs_cut fun K hK => ?_)
          simp only [List.take_succ_cons, List.take_zero]
          refine runs_eval tab_ok ?_
          simp only [ev0, evA, evB, evP, fl, gp, tab, simprocAttr, reduceCtorEq, reduceIte]
          refine fin_run trivial (hK _ ?_) <;> clear hK <;> clear K
          refine ⟨_, _, rfl, rfl, by simp only [dstOk, Nat.reduceLT], fold_E rfl rfl L g1 g2 g3 rfl, fun av H' hO => ?_⟩
          obtain ⟨G, U, rfl, rfl, hGl, fi⟩ := hO
          refine runs_cut fun K hK => ?_
          simp only [List.drop_succ_cons, List.drop_zero]
          refine runs_eval tab_ok ?_
          simp only [ev0, evA, evB, evP, fl, gp, tab, simprocAttr, reduceCtorEq, reduceIte]
          refine fin_run trivial (hK _ ?_) <;> clear hK <;> clear K
          refine qa (qm ?_)
          refine hk_regE 1 (runs_cut fun K hK => ?_)
          simp only [List.take_succ_cons, List.take_zero]
          refine runs_eval tab_ok ?_
          simp only [ev0, evA, evB, evP, fl, gp, tab, simprocAttr, reduceCtorEq, reduceIte]
          refine fin_run trivial (hK _ ?_) <;> clear hK <;> clear K
          refine ⟨_, _, rfl, rfl, by simp only [dstOk, Nat.reduceLT], reach_ES (Q := [_]) rfl rfl fi.wg fi.pos fi.sym hGl rfl rfl, fun av H' hO => ?_⟩
          obtain ⟨lst, f, V, rfl, rfl, g, hrt, hf⟩ := hO
          have hG := fi_isG fi g hrt hf
          obtain ⟨st, hst⟩ : ∃ st, stR G U = st := ⟨_, rfl⟩
          rw [hst] at g hf hG
          refine runs_cut fun K hK => ?_
          simp only [List.drop_succ_cons, List.drop_zero]
          refine runs_eval tab_ok ?_
          simp only [ev0, evA, evB, evP, fl, gp, tab, simprocAttr, reduceCtorEq, reduceIte]
          refine fin_run trivial (hK _ ?_) <;> clear hK <;> clear K
          refine qa (qm (qm ?_))
          obtain ⟨N, hN⟩ : ∃ N, G.length + 3 = N := ⟨_, rfl⟩
          have hH1l : (GB G V ++ [wayB f]).length = N + 1 := by rw [List.length_append, GB_len, hN]; rfl
          have hπ0 : (List.range' 1 (GB G V ++ [wayB f]).length ++ [0]).getD 0 0 = 1 := by
            rw [List.getD_eq_getElem?_getD, List.getElem?_append_left (by rw [List.length_range', hH1l]; omega), List.getElem?_range' (by rw [hH1l]; omega)]; rfl
          have hπk : (List.range' 1 (GB G V ++ [wayB f]).length ++ [0]).getD (N + 1) 0 = 0 := by
            rw [List.getD_eq_getElem?_getD, List.getElem?_append_right (by rw [List.length_range', hH1l]; omega), List.length_range', hH1l, Nat.sub_self]; rfl
          refine hk_le (s1 := ⟨82, [(1, .p (.int .i64 m)), (5, .ptr (N + 1) 0), (11, .ptr 0 0), (12, .p (.list (il (lst.map Int.ofNat))))], GB G V ++ [wayB f, .own (opl [.int .i64 0, .int .i64 0])]⟩) _ (le_swap1 (P := [_]) (H1 := GB G V ++ [wayB f]) (c := [.int .i64 0, .int .i64 0]) rfl rfl (fun b hb => ?_) ?_ rfl (by simp) ?_) ?_
          · rw [hH1l]
            rcases List.mem_append.1 hb with hb | hb
            · exact GB_hsc (by omega) b hb
            · rw [List.mem_singleton] at hb; subst hb; rfl
          · rw [List.all_append, GB_na]; rfl
          · refine ⟨rfl, rfl, ?_, ?_, ?_, ?_, rfl, rfl, trivial⟩
            · show AV.ptr 0 0 = Go.Pv.ren _ _
              simp only [Go.Pv.ren, ren1, List.length_cons, List.length_nil, Nat.zero_add, hπk]
            · rw [List.length_append, List.length_range', hH1l]; simp [scA, sc1]
            · show AV.ptr 1 0 = Go.Pv.ren _ _
              simp only [Go.Pv.ren, ren1, List.length_cons, List.length_nil, Nat.zero_add, hπ0]
            · rw [List.length_append, List.length_range', hH1l]; simp [scA, sc1]
          have hgN : ∀ a b : Blk, hget (GB G V ++ [a, b]) (N + 1) = b := fun a b => by
            rw [hget_app2 (by rw [GB_len]; omega), GB_len, show N + 1 - (G.length + 3) = 1 by omega]; rfl
          have hsN : ∀ a b c : Blk, hset (GB G V ++ [a, b]) (N + 1) c = GB G V ++ [a, c] := fun a b c => by
            rw [hset_eq, List.set_append_right _ _ (by rw [GB_len]; omega), GB_len, show N + 1 - (G.length + 3) = 1 by omega]; rfl
          have hHs : ∀ c : List PV, ∀ b ∈ (GB G V ++ [wayB f, .own (opl c)]), hsc (N + 2) b = true := fun c b hb => by
            rcases List.mem_append.1 hb with hb | hb
            · exact GB_hsc (by omega) b hb
            · simp only [List.mem_cons, List.not_mem_nil, or_false] at hb
              rcases hb with rfl | rfl
              · rfl
              · exact List.all_eq_true.2 fun x hx => (List.all_eq_true.1 (opl_sc _ _)) x hx
          have hll : lst.length ≤ G.length := nodup_len _ _ g.nd fun x hx => (hrt x hx).1
          refine hk_region fun K hK => runs_eval tab_ok ?_
          simp only [ev0, evA, evB, evP, fl, gp, tab, simprocAttr, reduceCtorEq, reduceIte, il_length, List.length_map]
          refine fin_run trivial (hK _ ?_) <;> clear hK <;> clear K
          refine qa (ql ?_)
          have hHl : (GB G V ++ [wayB f, Blk.own (opl [.int .i64 0, .int .i64 0])]).length = N + 2 := by rw [List.length_append, GB_len, hN]; rfl
          refine hk_loop (ι := Nat) (fun i => ⟨82, [(1, .p (.int .i64 m)), (5, .ptr (N + 1) 0), (11, .ptr 0 0), (12, .p (.list (il (lst.map Int.ofNat)))), (60, .p (.list (il (lst.map Int.ofNat)))), (61, .p (.int .i64 lst.length)), (62, .p (.int .i64 (i : Nat)))], GB G V ++ [wayB f, .own (opl [.int .i64 0, .int .i64 0])]⟩) (fun i => i ≤ lst.length ∧ ∀ k, k < i → 2 * m ≤ (ltS st (lst.getD k 0)).length) (fun i => lst.length - i) 0 ⟨Nat.zero_le _, fun k hk => absurd hk (Nat.not_lt_zero _)⟩ (List.range (N + 2)) (by
            rw [← hHl]
            refine le_same rfl rfl (by rw [hHl]; exact hHs _) ?_
            rw [hHl]
            simp [St.get, lk, scA, sc1]) fun i hi => ?_
          obtain ⟨r1, r2⟩ := hi
          refine qm ?_
          refine hk_region fun K hK => runs_eval tab_ok ?_
          simp only [ev0, evA, evB, evP, fl, gp, tab, simprocAttr, reduceCtorEq, reduceIte]
          refine fin_run trivial (hK _ ?_) <;> clear hK <;> clear K
          refine qa (qm ?_)
          refine hk_cond rfl (fun hC6 => ?_) (fun hC6 => ?_)
          · (try simp only [nhs] at hC6)
            have hi : i < lst.length := by omega
            obtain ⟨v, hv⟩ : ∃ v, lst.getD i 0 = v := ⟨_, rfl⟩
            have hvm : v ∈ lst := hv ▸ mem_ix hi
            obtain ⟨hvl, hvr⟩ := hrt v hvm
            have hgl : (lst.map Int.ofNat).getD i 0 = (v : Int) := by
              rw [← hv, List.getD_eq_getElem?_getD, List.getD_eq_getElem?_getD, List.getElem?_map, List.getElem?_eq_getElem hi]; rfl
            have hil : i < (lst.map Int.ofNat).length := by simpa using hi
            have hml : mpLen (fun z => (gm G v z).isSome) = (ltS st v).length := by
              rw [mpLen_lts _ fun x d hd => (fi.wg.ent v x d hvl hd).2.2.2, lts_ltS ⟨hvl, hvr⟩, hst]
            have gM : ∀ Y : Heap, hget (G.map mpB ++ Y) v = mpB (gm G v) := fun Y => hget_G hvl
            have hGBk : ∀ (Y : Heap), GB G V ++ Y = .own [.sl 1 0 G.length, .sl 2 0 V.length] :: .own (mps G.length) :: .own (ol V) :: (G.map mpB ++ Y) := fun Y => rfl
            have hll2 : (ltS st v).length ≤ 53 := by rw [← hst, ← lts_ltS ⟨hvl, hvr⟩]; exact lts_len _
            refine qh (qa (qm (ql (qm ?_))))
            refine hk_region fun K hK => runs_eval tab_ok ?_
            simp only [ev0, evA, evB, evP, fl, gp, tab, simprocAttr, reduceCtorEq, reduceIte, il_length, List.length_map, il_get hil, hgl]
            refine fin_run ?_ (hK _ ?_) <;> clear hK <;> clear K
            · omega
            refine qa (qm ?_)
            rw [hGBk]
            refine hk_region fun K hK => runs_eval tab_ok ?_
            simp only [ev0, evA, evB, evP, fl, gp, tab, simprocAttr, reduceCtorEq, reduceIte, mps_get hvl, mps_len, Int.toNat_natCast]
            refine fin_stop ?_ (runs_mapLen tab_ok rfl rfl (k := v + 3) rfl (gM _) rfl (by simp only [dstOk, Nat.reduceLT]) (runs_eval tab_ok ?_))
            · exact ⟨⟨by omega, by omega⟩, hvl⟩
            simp only [hml]
            simp only [ev0, evA, evB, evP, fl, gp, tab, simprocAttr, reduceCtorEq, reduceIte]
            refine fin_run ?_ (hK _ ?_) <;> clear hK <;> clear K
            · simp only [In64]; omega
            rw [← hGBk]
            refine qa ?_
            refine hk_cond rfl (fun hC7 => ?_) (fun hC7 => ?_)
            · (try simp only [nhs] at hC7)
              have hlt : (ltS st v).length < 2 * m := by
                have : ((ltS st v).length : Int) < 2 * m := by simpa using hC7
                omega
              have hne : ¬ eS (L.map short) = m * vS (L.map short) := fun e => by
                have := (hG.full hlet).2 e v hvm
                omega
              have hs : indexS L m = (0, (0, 0)) := by
                unfold indexS
                rw [hf0, Int.toNat_natCast, if_neg (by decide), if_neg hne]
              refine qm ?_
              refine hk_region fun K hK => runs_eval tab_ok ?_
              simp only [ev0, evA, evB, evP, fl, gp, tab, simprocAttr, reduceCtorEq, reduceIte, hgN, hsN]
              refine fin_run ?_ (hK _ ?_) <;> clear hK <;> clear K
              · (first | exact trivial | omega | (simp only [In64] at *; omega) | (simp [In64] at *; omega) | (simp_all; done) | skip)
              refine qa (qk (qe (qb (qb (qe (qb ?_))))))
              simp only [Try.results24, enA, ev0, evA, evB, evP, fl, gp, tab, simprocAttr, reduceCtorEq, reduceIte]
              simp only [hgN, enA, ev0, evA, evB, evP, fl, gp, tab, simprocAttr, reduceCtorEq, reduceIte]
              rw [hs]; exact ⟨rfl, rfl, rfl⟩
            · (try simp only [nhs] at hC7)
              have hge : 2 * m ≤ (ltS st v).length := by
                have : ¬ ((ltS st v).length : Int) < 2 * m := by simpa using hC7
                omega
              refine qh (qd (qa ?_))
              refine hk_region fun K hK => runs_eval tab_ok ?_
              simp only [ev0, evA, evB, evP, fl, gp, tab, simprocAttr, reduceCtorEq, reduceIte]
              refine fin_run ?_ (hK _ ?_) <;> clear hK <;> clear K
              · (first | exact trivial | omega | (simp only [In64] at *; omega) | (simp [In64] at *; omega) | (simp_all; done) | skip)
              refine qa ?_
              refine ⟨i + 1, List.range (N + 2), ⟨by omega, fun k hk => ?_⟩, by omega, ?_⟩
              · by_cases h : k < i
                · exact r2 k h
                · obtain rfl : k = i := by omega
                  rw [hv]; exact hge
              · rw [← hHl]
                refine le_same rfl rfl (by rw [hHl]; exact hHs _) ?_
                rw [hHl]
                simp [St.get, lk, scA, sc1]
          · (try simp only [nhs] at hC6)
            have hie2 : i = lst.length := by omega
            have hfu : Full st lst m := fun u hu => by
              obtain ⟨k, hk, rfl⟩ := ix_of hu
              exact r2 k (by omega)
            have heq := (hG.full hlet).1 hfu
            have hs : indexS L m = ((lst.length : Int), (0, 0)) := by
              unfold indexS
              rw [hf0, Int.toNat_natCast, if_neg (by decide), if_pos heq, hG.cnt.1]
            refine qj (qc (qc (qf (qa (qm ?_)))))
            refine hk_region fun K hK => runs_eval tab_ok ?_
            simp only [ev0, evA, evB, evP, fl, gp, tab, simprocAttr, reduceCtorEq, reduceIte, hgN, hsN, il_length, List.length_map]
            refine fin_run ?_ (hK _ ?_) <;> clear hK <;> clear K
            · (first | exact trivial | omega | (simp only [In64] at *; omega) | (simp [In64] at *; omega) | (simp_all; done) | skip)
            refine qa (qk ?_)
            simp only [Try.results24, enA, ev0, evA, evB, evP, fl, gp, tab, simprocAttr, reduceCtorEq, reduceIte]
            simp only [hgN, enA, ev0, evA, evB, evP, fl, gp, tab, simprocAttr, reduceCtorEq, reduceIte]
            rw [hs]; exact ⟨rfl, rfl, rfl⟩
end Go.Proofs.Ytneglephfhiamaa

/-
  The graph of the document's example. Conditions: none.
-/
set_option linter.all false
namespace Go.Proofs.Ytneglephfhiamaa
open Go.Pv

def stX (u : Nat) (x : Int) : Option Nat := if (u = 0 ∧ (x = 1 ∨ x = -1)) then some 1 else if (u = 1 ∧ (x = 1 ∨ x = -1)) then some 0 else if (u ≤ 1 ∧ (x = 2 ∨ x = -2)) then some u else none
def fX : Wy := updW (updW (fun _ => none) 0 []) 1 [1]
def sX : List (List Int) := [[1, 1], [2], [1, 2, -1]]
theorem stX_iff {u v : Nat} {x : Int} : stX u x = some v ↔ (u = 0 ∧ (x = 1 ∨ x = -1) ∧ v = 1) ∨ (u = 1 ∧ (x = 1 ∨ x = -1) ∧ v = 0) ∨ (u ≤ 1 ∧ (x = 2 ∨ x = -2) ∧ v = u) := by
  unfold stX
  split
  · rename_i h; obtain ⟨rfl, h⟩ := h
    constructor
    · intro e; have := Option.some.inj e; left; omega
    · intro e; have : v = 1 := by omega
      rw [this]
  · split
    · rename_i h; obtain ⟨rfl, h⟩ := h
      constructor
      · intro e; have := Option.some.inj e; right; left; omega
      · intro e; have : v = 0 := by omega
        rw [this]
    · split
      · constructor
        · intro e; have := Option.some.inj e; right; right; omega
        · intro e; have : v = u := by omega
          rw [this]
      · constructor
        · intro e; cases e
        · intro e; omega
theorem isX : IsG sX stX [0, 1] fX := by
  have f0 : fX 0 = some [] := rfl
  have f1 : fX 1 = some [1] := rfl
  refine ⟨⟨fun c d x _ h => ?_, by simp, rfl, fun z => ?_, rfl, fun j hj h0 => ?_, fun u hu x v h => ?_, fun u hu x v h => ?_⟩, fun X st x0 hi hc => ?_, fun s hs => ?_, fun u hu w hw => ?_⟩
  · rw [stX_iff] at h ⊢; omega
  · unfold fX updW
    by_cases h1 : z = 1
    · subst h1; simp
    · rw [if_neg h1]
      by_cases h2 : z = 0
      · subst h2; simp
      · rw [if_neg h2]
        simp only [Option.isSome_none, Bool.false_eq_true, List.mem_cons, List.not_mem_nil, or_false, false_iff, not_exists, not_and]
        rintro u (rfl | rfl) <;> omega
  · simp only [List.length_cons, List.length_nil] at hj
    obtain rfl : j = 1 := by omega
    exact ⟨0, 1, [], by omega, rfl, rfl, rfl⟩
  · rw [stX_iff] at h
    simp only [List.mem_cons, List.not_mem_nil, or_false]; omega
  · rw [stX_iff] at h; omega
  · have c1 := hc [1, 1] (by simp [sX])
    have c2 := hc [2] (by simp [sX])
    have c3 := hc [1, 2, -1] (by simp [sX])
    simp only [runW] at c1 c2 c3
    cases e1 : st x0 1 with
    | none => rw [e1] at c1; cases c1
    | some y =>
      rw [e1] at c1 c3
      simp only at c1 c3
      cases e2 : st y 1 with
      | none => rw [e2] at c1; cases c1
      | some z =>
        rw [e2] at c1
        obtain rfl : z = x0 := Option.some.inj c1
        cases e3 : st z 2 with
        | none => rw [e3] at c2; cases c2
        | some t =>
          rw [e3] at c2
          obtain rfl : t = z := Option.some.inj c2
          cases e4 : st y 2 with
          | none => rw [e4] at c3; cases c3
          | some q =>
            rw [e4] at c3
            simp only at c3
            cases e5 : st q (-1) with
            | none => rw [e5] at c3; cases c3
            | some q2 =>
              rw [e5] at c3
              obtain rfl : q2 = t := Option.some.inj c3
              have e6 := hi _ _ _ (by decide) e5
              rw [Int.neg_neg, e1] at e6
              obtain rfl := Option.some.inj e6
              refine ⟨fun u => if u = 0 then q2 else y, rfl, fun u hu x v h => ?_⟩
              rw [stX_iff] at h
              have i1 := hi _ _ _ (by decide) e1
              have i2 := hi _ _ _ (by decide) e2
              have i3 := hi _ _ _ (by decide) e3
              have i4 := hi _ _ _ (by decide) e4
              rcases h with ⟨rfl, rfl | rfl, rfl⟩ | ⟨rfl, rfl | rfl, rfl⟩ | ⟨hu1, rfl | rfl, rfl⟩
              · exact e1
              · exact i2
              · exact e2
              · exact i1
              · rcases (show v = 0 ∨ v = 1 by omega) with rfl | rfl
                · exact e3
                · exact e4
              · rcases (show v = 0 ∨ v = 1 by omega) with rfl | rfl
                · exact i3
                · exact i4
  · simp only [sX, List.mem_cons, List.not_mem_nil, or_false] at hs
    rcases hs with rfl | rfl | rfl <;> rfl
  · simp only [List.mem_cons, List.not_mem_nil, or_false] at hu
    rcases hu with rfl | rfl
    · exact Nat.zero_le _
    · cases w with
      | nil => cases hw
      | cons x w => show 1 ≤ (x :: w).length; simp
theorem cntX : vS sX = 2 ∧ eS sX = 4 := by
  have := isX.cnt
  refine ⟨this.1.symm, ?_⟩
  rw [← this.2]
  decide
end Go.Proofs.Ytneglephfhiamaa

/-
  Graphs of words: the walk of the document's example. Conditions: none.
-/
set_option linter.all false
namespace Go.Proofs.Ytneglephfhiamaa
open Go.Pv

theorem Rle.nn3l {a b c : List PV} : Rle (.nn [.nn a, .nn b, .nn c]) (.list [.list a, .list b, .list c]) := fun ok w v h => by
  cases h with
  | nn _ k off sz vs hb hsz hc hr =>
    refine .list [.list a, .list b, .list c] k off 3 1 vs hb (by simp [PV.cells]) (by simp) (fun i hc' => hc i (by simpa [flat, PV.cells] using hc')) fun i hcl => ?_
    have h0 := hr 0 (by simp [flat, PV.cells])
    have h1 := hr 1 (by simp [flat, PV.cells])
    have h2 := hr 2 (by simp [flat, PV.cells])
    match i, hcl with
    | 0, _ => exact Reads.nn_list h0
    | 1, _ => exact Reads.nn_list h1
    | 2, _ => exact Reads.nn_list h2
theorem ckX : ckL sX = (0, 0) := rfl
theorem shX : sX.map short = sX := rfl
theorem goodX : Good sX := by
  refine ⟨fun w hw => ?_, by decide, by decide⟩
  simp only [sX, List.mem_cons, List.not_mem_nil, or_false] at hw
  rcases hw with rfl | rfl | rfl
  · exact ⟨by decide, fun x hx => by simp at hx; omega⟩
  · exact ⟨by decide, fun x hx => by simp at hx; omega⟩
  · exact ⟨by decide, fun x hx => by simp at hx; omega⟩
theorem indexX : indexS sX 2 = (2, (0, 0)) := by
  have h1 : idxF sX 2 = (0, 0) := rfl
  unfold indexS
  rw [h1, shX, cntX.1, cntX.2]; rfl
theorem rankX : rankS sX = (3, (0, 0)) := by
  unfold rankS
  rw [ckX, shX, cntX.1, cntX.2]; rfl
theorem lenX : sX.length ≤ 1000000000 ∧ ∀ w ∈ sX, w.length ≤ 1000000000 := ⟨by decide, fun w hw => (goodX.1 w hw).1⟩
theorem indexX_c : FnC Try.prog 24 [.nn [.nn [.int .i64 1, .int .i64 1], .nn [.int .i64 2], .nn [.int .i64 1, .int .i64 2, .int .i64 (-1)]], .int .i64 2] (.tup [.int .i64 2, fl (0, 0)]) := by
  have := index_c sX 2 lenX.1 lenX.2 (fun _ => goodX)
  rw [indexX] at this
  exact FnC.weak this ⟨Rle.nn3l, Rle.rfl, trivial⟩
theorem rankX_c : FnC Try.prog 17 [.nn [.nn [.int .i64 1, .int .i64 1], .nn [.int .i64 2], .nn [.int .i64 1, .int .i64 2, .int .i64 (-1)]]] (.tup [.int .i64 3, fl (0, 0)]) := by
  have := rank_c sX lenX.1 lenX.2 (fun _ => goodX)
  rw [rankX] at this
  exact FnC.weak this ⟨Rle.nn3l, trivial⟩

set_option maxHeartbeats 4000000 in
theorem foldBegun_c : FnC Try.prog 13 [] (.bool true) := by
  refine fnc_of tab_ok Try.func13 rfl (by kernel_rfl) (by rw [Try.ntmps13]; exact Nat.le_add_left 0 _) ?_; rw [Try.ntmps13]
  refine qm ?_
  refine hk_region fun K hK => runs_eval tab_ok ?_
  simp only [ev0, evA, evB, evP, fl, gp, tab, simprocAttr, reduceCtorEq, reduceIte]
  refine fin_run trivial (hK _ ?_) <;> clear hK <;> clear K
  refine qa (qm ?_)
  refine hk_region fun K hK => runs_eval tab_ok ?_
  simp only [ev0, evA, evB, evP, fl, gp, tab, simprocAttr, reduceCtorEq, reduceIte]
  refine fin_run ?_ (hK _ ?_) <;> clear hK <;> clear K
  · (first | exact trivial | omega | (simp only [In64] at *; omega) | (simp [In64] at *; omega) | (simp_all; done) | skip)
  refine qa (qm ?_)
  refine hk_region fun K hK => runs_eval tab_ok ?_
  simp only [ev0, evA, evB, evP, fl, gp, tab, simprocAttr, reduceCtorEq, reduceIte]
  refine fin_stop trivial (runs_call (indexX_c) rfl rfl rfl (by simp only [dstOk, Nat.reduceLT]) (by repeat (first | exact trivial | constructor)) (runs_eval tab_ok ?_))
  simp only [ev0, evA, evB, evP, fl, gp, tab, simprocAttr, reduceCtorEq, reduceIte]
  refine fin_run ?_ (hK _ ?_) <;> clear hK <;> clear K
  · (first | exact trivial | omega | (simp only [In64] at *; omega) | (simp [In64] at *; omega) | (simp_all; done) | skip)
  refine qa (qm ?_)
  refine hk_region fun K hK => runs_eval tab_ok ?_
  simp only [ev0, evA, evB, evP, fl, gp, tab, simprocAttr, reduceCtorEq, reduceIte]
  refine fin_stop trivial (runs_call (rankX_c) rfl rfl rfl (by simp only [dstOk, Nat.reduceLT]) (by repeat (first | exact trivial | constructor)) (runs_eval tab_ok ?_))
  simp only [ev0, evA, evB, evP, fl, gp, tab, simprocAttr, reduceCtorEq, reduceIte]
  refine fin_run ?_ (hK _ ?_) <;> clear hK <;> clear K
  · (first | exact trivial | omega | (simp only [In64] at *; omega) | (simp [In64] at *; omega) | (simp_all; done) | skip)
  refine qa (qm ?_)
  refine hk_region fun K hK => runs_eval tab_ok ?_
  simp only [ev0, evA, evB, evP, fl, gp, tab, simprocAttr, reduceCtorEq, reduceIte]
  refine fin_run ?_ (hK _ ?_) <;> clear hK <;> clear K
  · (first | exact trivial | omega | (simp only [In64] at *; omega) | (simp [In64] at *; omega) | (simp_all; done) | skip)
  refine qa (qk ?_)
  simp only [Try.results13, enA, ev0, evA, evB, evP, fl, gp, tab, simprocAttr, reduceCtorEq, reduceIte]
  all_goals ((first | exact rfl | exact ⟨rfl, rfl⟩ | exact ⟨rfl, rfl, rfl⟩ | exact ⟨trivial, rfl⟩ | exact ⟨Nat.le_refl _, rfl⟩ | trivial | (simp; done)))
end Go.Proofs.Ytneglephfhiamaa

/-
  Walks: the reference's faults of words; words that are long; copies. Conditions: none.
-/
set_option linter.all false
namespace Go.Proofs.Ytneglephfhiamaa
open Go.Pv

set_option maxHeartbeats 4000000 in
theorem someWords_c (L : List (List Int)) (hl : L.length ≤ 1000000000) (hw : ∀ w ∈ L, w.length ≤ 1000000000) : FnC Try.prog 18 [.list (ll L)] (fl (ckL L)) := by
  refine fnc_of tab_ok Try.func18 rfl (by kernel_rfl) (by rw [Try.ntmps18]; exact Nat.le_add_left 1 _) ?_; rw [Try.ntmps18]
  refine qm ?_
  refine hk_region fun K hK => runs_eval tab_ok ?_
  simp only [ev0, evA, evB, evP, fl, gp, tab, simprocAttr, reduceCtorEq, reduceIte]
  refine fin_run ?_ (hK _ ?_) <;> clear hK <;> clear K
  · (first | exact trivial | omega | (simp only [In64] at *; omega) | (simp [In64] at *; omega) | (simp_all; done) | skip)
  refine qa (qm (qm ?_))
  refine hk_region fun K hK => runs_eval tab_ok ?_
  simp only [ev0, evA, evB, evP, fl, gp, tab, simprocAttr, reduceCtorEq, reduceIte, ll_length]
  refine fin_run trivial (hK _ ?_) <;> clear hK <;> clear K
  refine qa ?_
  refine hk_cond rfl (fun hC1 => ?_) (fun hC1 => ?_)
  · (try simp only [nhs] at hC1)
    have h20 : 20 < L.length := by omega
    refine qm ?_
    refine hk_region fun K hK => runs_eval tab_ok ?_
    simp only [ev0, evA, evB, evP, fl, gp, tab, simprocAttr, reduceCtorEq, reduceIte]
    refine fin_stop trivial (runs_call (f_c 2 0) rfl rfl rfl (by simp only [dstOk, Nat.reduceLT]) (by repeat (first | exact trivial | constructor)) (runs_eval tab_ok ?_))
    simp only [ev0, evA, evB, evP, fl, gp, tab, simprocAttr, reduceCtorEq, reduceIte]
    refine fin_run ?_ (hK _ ?_) <;> clear hK <;> clear K
    · (first | exact trivial | omega | (simp only [In64] at *; omega) | (simp [In64] at *; omega) | (simp_all; done) | skip)
    refine qa (qk (qb ?_))
    simp only [Try.results18, enA, ev0, evA, evB, evP, fl, gp, tab, simprocAttr, reduceCtorEq, reduceIte]
    have e : ckL L = (2, 0) := by unfold ckL; rw [if_pos (by omega)]
    rw [e]
    exact ⟨rfl, rfl⟩
  · (try simp only [nhs] at hC1)
    have h20 : ¬ 20 < L.length := by omega
    refine qh (qa (qm ?_))
    refine hk_region fun K hK => runs_eval tab_ok ?_
    simp only [ev0, evA, evB, evP, fl, gp, tab, simprocAttr, reduceCtorEq, reduceIte]
    refine fin_run trivial (hK _ ?_) <;> clear hK <;> clear K
    refine qa (qm (qm ?_))
    refine hk_region fun K hK => runs_eval tab_ok ?_
    simp only [ev0, evA, evB, evP, fl, gp, tab, simprocAttr, reduceCtorEq, reduceIte]
    refine fin_run trivial (hK _ ?_) <;> clear hK <;> clear K
    refine qa (ql ?_)
    refine hk_loop (ι := Nat × Nat) (fun q => ⟨40, [(0, .p (.list (ll L))), (2, .ptr 0 0), (3, .p (.int .i64 (q.2 : Nat))), (4, .p (.int .i64 (q.1 : Nat)))], [.own [.p (.int .i64 0), .p (.int .i64 0)]]⟩) (fun q => q.1 ≤ L.length ∧ q.2 ≤ 2000 ∧ ckL L = ckG (L.drop q.1) q.1 q.2) (fun q => L.length - q.1) (0, 0) ⟨Nat.zero_le _, Nat.zero_le _, by unfold ckL; rw [if_neg h20]; rfl⟩ [0] (by simp only [leq, leA, ev0, evA, evB, evP, fl, gp, tab, simprocAttr, reduceCtorEq, reduceIte] <;> trivial) fun q hq => ?_
    obtain ⟨i, n⟩ := q
    obtain ⟨q1, q2, q3⟩ := hq
    simp only at q1 q2 q3 ⊢
    refine qm (qm ?_)
    refine hk_region fun K hK => runs_eval tab_ok ?_
    simp only [ev0, evA, evB, evP, fl, gp, tab, simprocAttr, reduceCtorEq, reduceIte, ll_length]
    refine fin_run trivial (hK _ ?_) <;> clear hK <;> clear K
    refine qa ?_
    refine hk_cond rfl (fun hC2 => ?_) (fun hC2 => ?_)
    · (try simp only [nhs] at hC2)
      have hi : i < L.length := by omega
      have hdr : L.drop i = L.getD i [] :: L.drop (i + 1) := by
        rw [List.drop_eq_getElem_cons hi, List.getD_eq_getElem?_getD, List.getElem?_eq_getElem hi]; rfl
      obtain ⟨w, hwd⟩ : ∃ w, L.getD i [] = w := ⟨_, rfl⟩
      have hwl : w.length ≤ 1000000000 := hw w (by rw [← hwd, List.getD_eq_getElem?_getD, List.getElem?_eq_getElem hi]; exact List.getElem_mem hi)
      rw [hdr, hwd, ckG] at q3
      refine qh (qa (qm (ql (qm ?_))))
      refine hk_region fun K hK => runs_eval tab_ok ?_
      simp only [ev0, evA, evB, evP, fl, gp, tab, simprocAttr, reduceCtorEq, reduceIte, ll_length, ll_get hi, hwd]
      refine fin_stop ?_ (runs_call (wordFault_c w) rfl rfl rfl (by simp only [dstOk, Nat.reduceLT]) (by repeat (first | exact trivial | constructor)) (runs_eval tab_ok ?_))
      · (first | exact trivial | omega | exact ⟨by omega, by omega⟩ | trace_state)
      simp only [ev0, evA, evB, evP, fl, gp, tab, simprocAttr, reduceCtorEq, reduceIte, ll_length, ll_get hi, hwd]
      refine fin_run ?_ (hK _ ?_) <;> clear hK <;> clear K
      · (first | exact trivial | omega | trace_state)
      refine qa (qm (qm ?_))
      refine hk_region fun K hK => runs_eval tab_ok ?_
      simp only [ev0, evA, evB, evP, fl, gp, tab, simprocAttr, reduceCtorEq, reduceIte]
      refine fin_run ?_ (hK _ ?_) <;> clear hK <;> clear K
      · (first | exact trivial | omega | (simp only [In64] at *; omega) | (simp [In64] at *; omega) | (simp_all; done) | skip)
      refine qa ?_
      refine hk_cond rfl (fun hC3 => ?_) (fun hC3 => ?_)
      · (try simp only [nhs] at hC3)
        have h0 : (check w).1 ≠ 0 := hC3
        rw [if_pos h0] at q3
        refine qm ?_
        refine hk_region fun K hK => runs_eval tab_ok ?_
        simp only [ev0, evA, evB, evP, fl, gp, tab, simprocAttr, reduceCtorEq, reduceIte]
        refine fin_stop trivial (runs_call (f_c (check w).1 i) rfl rfl rfl (by simp only [dstOk, Nat.reduceLT]) (by repeat (first | exact trivial | constructor)) (runs_eval tab_ok ?_))
        simp only [ev0, evA, evB, evP, fl, gp, tab, simprocAttr, reduceCtorEq, reduceIte]
        refine fin_run ?_ (hK _ ?_) <;> clear hK <;> clear K
        · (first | exact trivial | omega | (simp only [In64] at *; omega) | (simp [In64] at *; omega) | (simp_all; done) | skip)
        refine qa (qk (qb (qe (qb (qb (qe (qb ?_)))))))
        simp only [Try.results18, enA, ev0, evA, evB, evP, fl, gp, tab, simprocAttr, reduceCtorEq, reduceIte]
        all_goals (rw [q3]; exact ⟨rfl, rfl⟩)
      · (try simp only [nhs] at hC3)
        have h0 : ¬ (check w).1 ≠ 0 := fun h => h hC3
        rw [if_neg h0] at q3
        refine qh (qa (qm ?_))
        refine hk_region fun K hK => runs_eval tab_ok ?_
        simp only [ev0, evA, evB, evP, fl, gp, tab, simprocAttr, reduceCtorEq, reduceIte, il_length, ll_length, ll_get hi, hwd]
        refine fin_run ?_ (hK _ ?_) <;> clear hK <;> clear K
        · (first | omega | (simp only [In64]; omega) | exact ⟨by omega, by simp only [In64]; omega⟩ | trace_state)
        refine qa (qm ?_)
        refine hk_region fun K hK => runs_eval tab_ok ?_
        simp only [ev0, evA, evB, evP, fl, gp, tab, simprocAttr, reduceCtorEq, reduceIte]
        refine fin_run trivial (hK _ ?_) <;> clear hK <;> clear K
        refine qa ?_
        refine hk_cond rfl (fun hC4 => ?_) (fun hC4 => ?_)
        · (try simp only [nhs] at hC4)
          have h1 : 2000 < n + w.length := by omega
          rw [if_pos h1] at q3
          refine qm ?_
          refine hk_region fun K hK => runs_eval tab_ok ?_
          simp only [ev0, evA, evB, evP, fl, gp, tab, simprocAttr, reduceCtorEq, reduceIte]
          refine fin_stop trivial (runs_call (f_c 2 i) rfl rfl rfl (by simp only [dstOk, Nat.reduceLT]) (by repeat (first | exact trivial | constructor)) (runs_eval tab_ok ?_))
          simp only [ev0, evA, evB, evP, fl, gp, tab, simprocAttr, reduceCtorEq, reduceIte]
          refine fin_run ?_ (hK _ ?_) <;> clear hK <;> clear K
          · (first | exact trivial | omega | (simp only [In64] at *; omega) | (simp [In64] at *; omega) | (simp_all; done) | skip)
          refine qa (qk (qe (qb (qb (qe (qb ?_))))))
          simp only [Try.results18, enA, ev0, evA, evB, evP, fl, gp, tab, simprocAttr, reduceCtorEq, reduceIte]
          all_goals (rw [q3]; exact ⟨rfl, rfl⟩)
        · (try simp only [nhs] at hC4)
          have h1 : ¬ 2000 < n + w.length := by omega
          rw [if_neg h1] at q3
          refine qh (qd (qa ?_))
          refine hk_region fun K hK => runs_eval tab_ok ?_
          simp only [ev0, evA, evB, evP, fl, gp, tab, simprocAttr, reduceCtorEq, reduceIte]
          refine fin_run ?_ (hK _ ?_) <;> clear hK <;> clear K
          · (first | exact trivial | omega | (simp only [In64] at *; omega) | (simp [In64] at *; omega) | (simp_all; done) | skip)
          refine qa ?_
          refine ⟨(i + 1, n + w.length), [0], ⟨by simp only; omega, by simp only; omega, q3⟩, by simp only; omega, ?_⟩
          simp only [leq, leA, ev0, evA, evB, evP, fl, gp, tab, simprocAttr, reduceCtorEq, reduceIte] <;> first | trivial | trace_state
    · (try simp only [nhs] at hC2)
      refine qj (qc (qc (qf (qa (qm ?_)))))
      refine hk_region fun K hK => runs_eval tab_ok ?_
      simp only [ev0, evA, evB, evP, fl, gp, tab, simprocAttr, reduceCtorEq, reduceIte]
      refine fin_run ?_ (hK _ ?_) <;> clear hK <;> clear K
      · (first | exact trivial | omega | (simp only [In64] at *; omega) | (simp [In64] at *; omega) | (simp_all; done) | skip)
      refine qa (qk ?_)
      simp only [Try.results18, enA, ev0, evA, evB, evP, fl, gp, tab, simprocAttr, reduceCtorEq, reduceIte]
      have hie : i = L.length := by omega
      rw [hie, List.drop_length, ckG] at q3
      rw [q3]
      exact ⟨rfl, rfl⟩

end Go.Proofs.Ytneglephfhiamaa

/-
  Walks: words that are long; copies of lists. Conditions: none.
-/
set_option linter.all false
namespace Go.Proofs.Ytneglephfhiamaa
open Go.Pv

/-- More letters than are folded. -/
def lwS (L : List (List Int)) : Bool := decide (3000 < tot L) || decide (200 < L.length) || (decide (120 < tot L) && decide ((ckL L).1 = 0))

theorem tot_mem : ∀ {L : List (List Int)} {w : List Int}, w ∈ L → w.length ≤ tot L
  | v :: L, w, h => by
    have e : tot (v :: L) = v.length + tot L := by simp [tot]
    rcases List.mem_cons.1 h with rfl | h
    · omega
    · have := tot_mem h; omega
set_option maxHeartbeats 4000000 in
theorem longWords_c (L : List (List Int)) (hl : L.length ≤ 100000000000000) (hw : ∀ w ∈ L, w.length ≤ 100000000000000) : FnC Try.prog 14 [.list (ll L)] (.bool (lwS L)) := by
  refine fnc_of tab_ok Try.func14 rfl (by kernel_rfl) (by rw [Try.ntmps14]; exact Nat.le_add_left 1 _) ?_; rw [Try.ntmps14]
  refine qm ?_
  refine hk_region fun K hK => runs_eval tab_ok ?_
  simp only [ev0, evA, evB, evP, fl, gp, tab, simprocAttr, reduceCtorEq, reduceIte]
  refine fin_run trivial (hK _ ?_) <;> clear hK <;> clear K
  refine qa (qm ?_)
  refine hk_region fun K hK => runs_eval tab_ok ?_
  simp only [ev0, evA, evB, evP, fl, gp, tab, simprocAttr, reduceCtorEq, reduceIte]
  refine fin_run trivial (hK _ ?_) <;> clear hK <;> clear K
  refine qa (qm (qm ?_))
  refine hk_region fun K hK => runs_eval tab_ok ?_
  simp only [ev0, evA, evB, evP, fl, gp, tab, simprocAttr, reduceCtorEq, reduceIte]
  refine fin_run trivial (hK _ ?_) <;> clear hK <;> clear K
  refine qa (ql ?_)
  refine hk_loop (ι := Nat) (fun i => ⟨33, [(0, .p (.list (ll L))), (3, .p (.int .i64 (tot (L.take i) : Nat))), (4, .p (.int .i64 (i : Nat)))], []⟩) (fun i => i ≤ L.length ∧ tot (L.take i) ≤ 3000) (fun i => L.length - i) 0 ⟨Nat.zero_le _, by simp [tot]⟩ [] ⟨rfl, List.nodup_nil, trivial, rfl, rfl, rfl, rfl, rfl, rfl, trivial⟩ fun i hq => ?_
  obtain ⟨q1, q2⟩ := hq
  refine qm (qm ?_)
  refine hk_region fun K hK => runs_eval tab_ok ?_
  simp only [ev0, evA, evB, evP, fl, gp, tab, simprocAttr, reduceCtorEq, reduceIte, ll_length]
  refine fin_run trivial (hK _ ?_) <;> clear hK <;> clear K
  refine qa ?_
  refine hk_cond rfl (fun hC1 => ?_) (fun hC1 => ?_)
  · (try simp only [nhs] at hC1)
    have hi : i < L.length := by omega
    have ht : tot (L.take (i + 1)) = tot (L.take i) + (L.getD i []).length := by rw [take_snoc (d := []) hi, tot_sn]
    have hwl := hw (L.getD i []) (by rw [List.getD_eq_getElem?_getD, List.getElem?_eq_getElem hi]; exact List.getElem_mem hi)
    refine qh (qa (qm (ql (qm ?_))))
    refine hk_region fun K hK => runs_eval tab_ok ?_
    simp only [ev0, evA, evB, evP, fl, gp, tab, simprocAttr, reduceCtorEq, reduceIte, ll_length, ll_get hi, il_length]
    refine fin_run ?_ (hK _ ?_) <;> clear hK <;> clear K
    · (first | exact ⟨⟨by omega, by omega⟩, by simp only [In64]; omega⟩ | exact ⟨by omega, by simp only [In64]; omega⟩ | trace_state)
    refine qa (qm ?_)
    refine hk_region fun K hK => runs_eval tab_ok ?_
    simp only [ev0, evA, evB, evP, fl, gp, tab, simprocAttr, reduceCtorEq, reduceIte]
    refine fin_run trivial (hK _ ?_) <;> clear hK <;> clear K
    refine qa ?_
    refine hk_cond rfl (fun hC2 => ?_) (fun hC2 => ?_)
    · (try simp only [nhs] at hC2)
      have h3 : 3000 < tot L := by
        have := tot_tk L (i + 1)
        omega
      refine qm ?_
      refine hk_region fun K hK => runs_eval tab_ok ?_
      simp only [ev0, evA, evB, evP, fl, gp, tab, simprocAttr, reduceCtorEq, reduceIte]
      refine fin_run trivial (hK _ ?_) <;> clear hK <;> clear K
      refine qa (qk (qe (qb (qb (qe (qb ?_))))))
      simp only [Try.results14, enA, ev0, evA, evB, evP, fl, gp, tab, simprocAttr, reduceCtorEq, reduceIte]
      all_goals (simp [lwS, h3])
    · (try simp only [nhs] at hC2)
      refine qh (qd (qa ?_))
      refine hk_region fun K hK => runs_eval tab_ok ?_
      simp only [ev0, evA, evB, evP, fl, gp, tab, simprocAttr, reduceCtorEq, reduceIte]
      refine fin_run ?_ (hK _ ?_) <;> clear hK <;> clear K
      · (first | exact trivial | omega | (simp only [In64] at *; omega) | (simp [In64] at *; omega) | (simp_all; done) | skip)
      refine qa ?_
      refine ⟨i + 1, [], ⟨by omega, by omega⟩, by omega, ?_⟩
      rw [ht]
      simp only [leq, leA, ev0, evA, evB, evP, fl, gp, tab, simprocAttr, reduceCtorEq, reduceIte] <;> first | trivial | trace_state
  · (try simp only [nhs] at hC1)
    have hie : i = L.length := by omega
    rw [hie, List.take_length] at q2
    rw [hie, List.take_length]
    refine qj (qc (qc (qf (qa (qm ?_)))))
    by_cases g8a : (L.length : Int) > 200
    · refine hk_region fun K hK => runs_eval tab_ok ?_
      simp only [ev0, evA, evB, evP, fl, gp, tab, simprocAttr, reduceCtorEq, reduceIte, ll_length, decide_eq_true g8a]
      refine fin_run trivial (hK _ ?_) <;> clear hK <;> clear K
      refine qa (qk ?_)
      simp only [Try.results14, enA, ev0, evA, evB, evP, fl, gp, tab, simprocAttr, reduceCtorEq, reduceIte]
      have h1 : 200 < L.length := by omega
      simp [lwS, h1]
    · by_cases g8b : (tot L : Int) > 120
      · refine hk_region fun K hK => runs_eval tab_ok ?_
        simp only [ev0, evA, evB, evP, fl, gp, tab, simprocAttr, reduceCtorEq, reduceIte, ll_length, decide_eq_false g8a, decide_eq_true g8b]
        refine fin_stop trivial (runs_call (someWords_c L (by omega) (fun w hw => by have := tot_mem hw; omega)) rfl rfl rfl (by simp only [dstOk, Nat.reduceLT]) (by repeat (first | exact trivial | constructor)) (runs_eval tab_ok ?_))
        simp only [ev0, evA, evB, evP, fl, gp, tab, simprocAttr, reduceCtorEq, reduceIte, ll_length, decide_eq_false g8a, decide_eq_true g8b]
        refine fin_run trivial (hK _ ?_) <;> clear hK <;> clear K
        refine qa (qk ?_)
        simp only [Try.results14, enA, ev0, evA, evB, evP, fl, gp, tab, simprocAttr, reduceCtorEq, reduceIte]
        have h1 : ¬ 200 < L.length := by omega
        have h2 : 120 < tot L := by omega
        have h3 : ¬ 3000 < tot L := by omega
        simp [lwS, h1, h2, h3]
      · refine hk_region fun K hK => runs_eval tab_ok ?_
        simp only [ev0, evA, evB, evP, fl, gp, tab, simprocAttr, reduceCtorEq, reduceIte, ll_length, decide_eq_false g8a, decide_eq_false g8b]
        refine fin_run trivial (hK _ ?_) <;> clear hK <;> clear K
        refine qa (qk ?_)
        simp only [Try.results14, enA, ev0, evA, evB, evP, fl, gp, tab, simprocAttr, reduceCtorEq, reduceIte]
        have h1 : ¬ 200 < L.length := by omega
        have h2 : ¬ 120 < tot L := by omega
        have h3 : ¬ 3000 < tot L := by omega
        simp [lwS, h1, h2, h3]
end Go.Proofs.Ytneglephfhiamaa

/-
  Arguments of a law, opened: rows of rows of numbers. Conditions: none; a library text.
-/
set_option linter.all false
namespace Go.Pv
open Go.RowKit Go.ChangeShapes Go.WideShapes Go.ChangeAt

section
variable {H : Type} {enc : TypeId × Value → H} {P : Program}
theorem weightsAll_mem {e : TypeId} {f : Nat → Bool} : ∀ {l : List (DataW H)}, (DataW.weightsAll P e l).all f = true → ∀ d ∈ l, (d.weights P e).all f = true
  | [], _, d, hd => by simp at hd
  | x :: r, h, d, hd => by
    simp only [DataW.weightsAll, List.all_append, Bool.and_eq_true] at h
    rcases List.mem_cons.1 hd with rfl | hd
    · exact h.1
    · exact weightsAll_mem h.2 d hd

theorem wcells_one {W : World} {base : Nat} {a : Addr} {u : Value} (h : W.cells? base a 1 = some [u]) : W.cell? a = some u := by
  unfold World.cells? at h
  split at h
  · simp only [List.range_succ, List.range_zero, List.nil_append, List.mapM_cons, List.mapM_nil, Option.bind_eq_bind, Option.pure_def, Option.bind_eq_some_iff] at h
    obtain ⟨v, hv, l, hl, e⟩ := h
    simp only [Option.some.injEq] at hl e
    subst hl
    simp only [List.cons.injEq, and_true] at e
    subst e
    have : a.add 0 = a := by cases a; simp [Addr.add]
    rwa [this] at hv
  · cases h

theorem open_ll {t e ti : TypeId} {W : World} {base : Nat} {v : Value} {d : DataW H} {p : List MemPlace} (ht : P.underlying t = some (.slice e)) (he : P.underlying e = some (.slice ti)) (hti : P.underlying ti = some (.int .i64)) (hce : P.cellsOf e = 1) (hc : P.cellsOf ti = 1)
    (hbe : P.bytesOf e = 24) (hby : P.bytesOf ti = 8) (hval : Value.okWide P W .any base t v) (h : DataW.Trod enc P W 0 (fun _ => true) true t v d p) (hw : (d.weights P t).all (· ≤ reachBytes) = true) :
    ∃ ls : List (List Int), (∀ w ∈ ls, w.length ≤ 17592186043904) ∧ ls.length ≤ 17592186043904 ∧ Reads (fun b => b < W.heap.size) W (.list (ll ls)) v := by
  obtain ⟨a0, len0, cap0, rfl⟩ := okWide_slice ht hval
  obtain ⟨fuel, hf⟩ := h
  rcases DataW.trod_slice ht hf with ⟨hcs, hx⟩ | ⟨a, len, cap, elems, rest, n, _, hcs, hx, hb, hle, hmax, hlen, hel, _, _⟩
  · simp [Value.cells] at hcs
    obtain ⟨rfl, rfl, rfl⟩ := hcs
    exact ⟨[], fun x hx => by simp at hx, Nat.zero_le _, .list0 none 0 fun _ => rfl⟩
  · simp [Value.cells] at hcs
    obtain ⟨rfl, rfl, rfl⟩ := hcs
    simp only [Prod.mk.injEq] at hx
    obtain ⟨rfl, rfl⟩ := hx
    simp only [DataW.weights, ht, hbe, List.all_cons, List.all_append, Bool.and_eq_true, decide_eq_true_eq, List.length_map] at hw
    obtain ⟨hw1, hw2, _⟩ := hw
    unfold reachBytes at hw1
    have each : ∀ i, ∃ xs : List Int, ∃ u : Value, i < len0 → W.cell? (a.add i) = some u ∧ xs.length ≤ 17592186043904 ∧ Reads (fun b => b < W.heap.size) W (.list (il xs)) u := by
      intro i
      by_cases hi : i < len0
      · have h1 := hel i hi
        rw [hce, Nat.mul_one, List.getElem?_eq_getElem (show i < elems.length by omega)] at h1
        obtain ⟨cs, hcs, htr⟩ := Option.bind_eq_some_iff.1 h1
        have hwi := weightsAll_mem hw2 (elems[i]'(by omega)).1 (List.mem_map.2 ⟨_, List.getElem_mem _, rfl⟩)
        obtain ⟨xs, u, rfl, _, g2, g3⟩ := il_of_trod he hti hc hby htr hwi
        exact ⟨xs, u, fun _ => ⟨wcells_one hcs, g2, g3⟩⟩
      · exact ⟨[], undef, fun h => absurd h hi⟩
    obtain ⟨fx, hfx⟩ := Classical.skolem.1 each
    obtain ⟨fu, hfu⟩ := Classical.skolem.1 hfx
    refine ⟨(List.range len0).map fx, fun w hw => ?_, by rw [List.length_map, List.length_range]; omega, ?_⟩
    · obtain ⟨i, hi, rfl⟩ := List.mem_map.1 hw
      exact (hfu i (List.mem_range.1 hi)).2.1
    · have hlen' : (ll ((List.range len0).map fx)).length = len0 := by rw [ll_length, List.length_map, List.length_range]
      by_cases h0 : len0 = 0
      · subst h0
        exact .list0 _ _ fun h => by cases h
      · obtain ⟨b, off, spot⟩ := a
        have hspot : spot = none := by simpa [Addr.add] using World.cell?_spot (hfu 0 (by omega)).1
        subst hspot
        have hone : ∀ x ∈ ll ((List.range len0).map fx), x.cells.length = 1 := by
          intro x hx
          obtain ⟨y, _, rfl⟩ := List.mem_map.1 hx
          rfl
        have hfl : flat (ll ((List.range len0).map fx)) = ll ((List.range len0).map fx) := flat_all_one (ll_all _)
        have hcell' : ∀ c, c < len0 → W.cell? ⟨b, off + c, none⟩ = some (fu c) := fun c hc => by rw [← Go.WideShapes.add_plain]; exact (hfu c hc).1
        have := Reads.list (ok := fun b => b < W.heap.size) (w := W) (ll ((List.range len0).map fx)) b off cap0 1 fu ?_ hone (by rw [hlen']; exact hle) (fun c hcl => ?_) (fun c hcl => ?_)
        · rwa [hlen'] at this
        · have := hcell' 0 (by omega)
          simp only [World.cell?] at this
          by_cases hb : b < W.heap.size
          · exact hb
          · rw [Array.getElem?_eq_none (by omega)] at this
            simp at this
        · rw [hfl, hlen'] at hcl
          exact hcell' c hcl
        · simp only [hfl]
          have hcl2 : c < len0 := by rw [hfl, hlen'] at hcl; exact hcl
          have e : (ll ((List.range len0).map fx))[c]'(by rw [hlen']; exact hcl2) = .list (il (fx c)) := by
            simp [ll]
          rw [e]
          exact (hfu c hcl2).2.2
end
end Go.Pv

/-
  Laws of folding: what is no longer than is folded here. Conditions: none.
-/
set_option linter.all false
namespace Go.Proofs.Ytneglephfhiamaa
open Go.Pv

theorem lw_no {L : List (List Int)} (h : lwS L = false) : L.length ≤ 200 ∧ tot L ≤ 3000 ∧ (120 < tot L → (ckL L).1 ≠ 0) := by
  unfold lwS at h
  simp only [Bool.or_eq_false_iff, Bool.and_eq_false_iff, decide_eq_false_iff_not] at h
  obtain ⟨⟨h1, h2⟩, h3⟩ := h
  exact ⟨by omega, by omega, fun h4 => h3.resolve_left fun h5 => h5 h4⟩
theorem lw_len {L : List (List Int)} (h : lwS L = false) : L.length ≤ 1000000000 ∧ ∀ w ∈ L, w.length ≤ 1000000000 := by
  obtain ⟨h1, h2, _⟩ := lw_no h
  exact ⟨by omega, fun w hw => by have := tot_mem hw; omega⟩
theorem ckG_ok : ∀ (L : List (List Int)) (i n : Nat), (ckG L i n).1 = 0 → (∀ w ∈ L, Ok w ∧ w.length ≤ 2000) ∧ (L ≠ [] → n + tot L ≤ 2000) ∧ ckG L i n = (0, 0)
  | [], i, n, _ => ⟨fun w hw => (by cases hw), fun h => absurd rfl h, rfl⟩
  | w :: r, i, n, h => by
    unfold ckG at h ⊢
    by_cases h1 : (check w).1 ≠ 0
    · rw [if_pos h1] at h; exact absurd h h1
    · rw [if_neg h1] at h ⊢
      by_cases h2 : 2000 < n + w.length
      · rw [if_pos h2] at h; cases h
      · rw [if_neg h2] at h ⊢
        obtain ⟨a1, a2, a3⟩ := ckG_ok r (i + 1) (n + w.length) h
        have hw := check_ok (Classical.not_not.1 h1)
        refine ⟨fun v hv => ?_, fun _ => ?_, a3⟩
        · rcases List.mem_cons.1 hv with rfl | hv
          · exact hw
          · exact a1 v hv
        · rw [tot_cons]
          by_cases hr : r = []
          · subst hr; simp [tot]; omega
          · have := a2 hr; omega
theorem ckL_ok {L : List (List Int)} (h : (ckL L).1 = 0) : L.length ≤ 20 ∧ (∀ w ∈ L, Ok w ∧ w.length ≤ 2000) ∧ tot L ≤ 2000 ∧ ckL L = (0, 0) := by
  unfold ckL at h ⊢
  by_cases h1 : 20 < L.length
  · rw [if_pos h1] at h; cases h
  · rw [if_neg h1] at h ⊢
    obtain ⟨a1, a2, a3⟩ := ckG_ok L 0 0 h
    refine ⟨by omega, a1, ?_, a3⟩
    by_cases hL : L = []
    · subst hL; simp [tot]
    · have := a2 hL; omega
theorem tot_short : ∀ L : List (List Int), tot (L.map short) ≤ tot L
  | [] => Nat.le_refl _
  | w :: L => by
    rw [List.map_cons, tot_cons, tot_cons]
    have := short_len w
    have := tot_short L
    omega
theorem ckL_good {L : List (List Int)} (h : (ckL L).1 = 0) : Good L := by
  obtain ⟨h1, h2, h3, _⟩ := ckL_ok h
  refine ⟨fun w hw => ⟨by have := (h2 w hw).2; omega, (h2 w hw).1⟩, by omega, ?_⟩
  have := tot_short L
  omega
theorem ckL_fold {L : List (List Int)} (h : (ckL L).1 = 0) : (∀ w ∈ L, Ok w ∧ w.length ≤ 1000000000) ∧ L.length ≤ 1000000 ∧ tot (L.map short) ≤ 90000 := by
  obtain ⟨h1, h2, h3, _⟩ := ckL_ok h
  have := tot_short L
  exact ⟨fun w hw => ⟨(h2 w hw).1, by have := (h2 w hw).2; omega⟩, by omega, by omega⟩
theorem ckL_flen {L : List (List Int)} (h : (ckL L).1 = 0) : (folded L).length ≤ 100000 := by
  obtain ⟨h1, h2, h3⟩ := ckL_fold h
  have := folded_len L fun w hw => (h1 w hw).1
  omega
theorem ckL_cnt {L : List (List Int)} (h : (ckL L).1 = 0) : (plS (folded L)).length = vS (L.map short) ∧ (folded L).length = eS (L.map short) ∧ vS (L.map short) ≤ 200001 ∧ eS (L.map short) ≤ 100000 := by
  obtain ⟨h1, h2, h3⟩ := ckL_fold h
  obtain ⟨s1, s2, s3⟩ := folded_spec fun w hw => (h1 w hw).1
  have hc := fc_cnt s1 s2 s3
  have hl := ckL_flen h
  have hp := plS_len (folded L)
  refine ⟨hc.1, hc.2, by omega, by omega⟩
end Go.Proofs.Ytneglephfhiamaa

/-
  The law FoldSchreier. Conditions: none.
-/
set_option linter.all false
namespace Go.Proofs.Ytneglephfhiamaa
open Go.Pv

set_option maxHeartbeats 8000000 in
set_option maxRecDepth 20000 in
theorem foldSchreier_c (l : List (List Int)) (n : Int) (hl : l.length ≤ 100000000000000) (hlw : ∀ w ∈ l, w.length ≤ 100000000000000) :
    FnC Try.prog 5 [.list (ll l), .int .i64 n] (.bool true) := by
  refine fnc_of tab_ok Try.func5 rfl (by kernel_rfl) (by rw [Try.ntmps5]; exact Nat.le_add_left 2 _) ?_; rw [Try.ntmps5]
  refine qm ?_
  refine hk_region fun K hK => runs_eval tab_ok ?_
  simp only [ev0, evA, evB, evP, fl, gp, tab, simprocAttr, reduceCtorEq, reduceIte]
  refine fin_run trivial (hK _ ?_) <;> clear hK <;> clear K
  refine qa (qm (qm ?_))
  refine hk_region fun K hK => runs_eval tab_ok ?_
  simp only [ev0, evA, evB, evP, fl, gp, tab, simprocAttr, reduceCtorEq, reduceIte]
  refine fin_stop trivial (runs_call (foldBegun_c) rfl rfl rfl (by simp only [dstOk, Nat.reduceLT]) (by repeat (first | exact trivial | constructor)) (runs_eval tab_ok ?_))
  simp only [ev0, evA, evB, evP, fl, gp, tab, simprocAttr, reduceCtorEq, reduceIte]
  refine fin_run trivial (hK _ ?_) <;> clear hK <;> clear K
  refine qa ?_
  refine hk_cond rfl (fun hC1 => ?_) (fun hC1 => ?_)
  · (try simp only [nhs] at hC1)
    cases hC1
  · (try simp only [nhs] at hC1)
    refine qh (qa (qm (qm ?_)))
    cases h1 : lwS l
    · refine hk_region fun K hK => runs_eval tab_ok ?_
      simp only [ev0, evA, evB, evP, fl, gp, tab, simprocAttr, reduceCtorEq, reduceIte]
      refine fin_stop trivial (runs_call ((h1 ▸ longWords_c l hl hlw)) rfl rfl rfl (by simp only [dstOk, Nat.reduceLT]) (by repeat (first | exact trivial | constructor)) (runs_eval tab_ok ?_))
      simp only [ev0, evA, evB, evP, fl, gp, tab, simprocAttr, reduceCtorEq, reduceIte]
      refine fin_run trivial (hK _ ?_) <;> clear hK <;> clear K
      refine qa ?_
      refine hk_cond rfl (fun hC2 => ?_) (fun hC2 => ?_)
      · (try simp only [nhs] at hC2)
        cases hC2
      · (try simp only [nhs] at hC2)
        obtain ⟨l1, l2⟩ := lw_len h1
        have gl := fun h => ckL_good (L := l) h
        refine qh (qa (qm ?_))
        refine hk_region fun K hK => runs_eval tab_ok ?_
        simp only [ev0, evA, evB, evP, fl, gp, tab, simprocAttr, reduceCtorEq, reduceIte]
        refine fin_stop trivial (runs_call (index_c l n l1 l2 gl) rfl rfl rfl (by simp only [dstOk, Nat.reduceLT]) (by repeat (first | exact trivial | constructor)) (runs_eval tab_ok ?_))
        simp only [ev0, evA, evB, evP, fl, gp, tab, simprocAttr, reduceCtorEq, reduceIte]
        refine fin_run ?_ (hK _ ?_) <;> clear hK <;> clear K
        · (first | exact trivial | omega | (simp only [In64] at *; omega) | (simp [In64] at *; omega) | (simp_all; done) | skip)
        refine qa (qm ?_)
        refine hk_region fun K hK => runs_eval tab_ok ?_
        simp only [ev0, evA, evB, evP, fl, gp, tab, simprocAttr, reduceCtorEq, reduceIte]
        refine fin_stop trivial (runs_call (rank_c l l1 l2 gl) rfl rfl rfl (by simp only [dstOk, Nat.reduceLT]) (by repeat (first | exact trivial | constructor)) (runs_eval tab_ok ?_))
        simp only [ev0, evA, evB, evP, fl, gp, tab, simprocAttr, reduceCtorEq, reduceIte]
        refine fin_run ?_ (hK _ ?_) <;> clear hK <;> clear K
        · (first | exact trivial | omega | (simp only [In64] at *; omega) | (simp [In64] at *; omega) | (simp_all; done) | skip)
        refine qa (qm (qm ?_))
        have hi2 : (indexS l n).2 = idxF l n := rfl
        obtain ⟨k, hk⟩ : ∃ k, (indexS l n).1 = k := ⟨_, rfl⟩
        obtain ⟨r, hr⟩ : ∃ r, (rankS l).1 = r := ⟨_, rfl⟩
        obtain ⟨c, hc⟩ : ∃ c, (rankS l).2 = c := ⟨_, rfl⟩
        obtain ⟨d, hd⟩ : ∃ d, idxF l n = d := ⟨_, rfl⟩
        rw [hi2, hk, hr, hc, hd]
        by_cases g7a : d.1 = 0
        · refine hk_region fun K hK => runs_eval tab_ok ?_
          simp only [ev0, evA, evB, evP, fl, gp, tab, simprocAttr, reduceCtorEq, reduceIte, decide_eq_true g7a]
          refine fin_run ?_ (hK _ ?_) <;> clear hK <;> clear K
          · (first | exact trivial | omega | (simp only [In64] at *; omega) | (simp [In64] at *; omega) | (simp_all; done) | skip)
          refine qa ?_
          refine hk_cond rfl (fun hC3 => ?_) (fun hC3 => ?_)
          · (try simp only [nhs] at hC3)
            refine qm ?_
            refine hk_region fun K hK => runs_eval tab_ok ?_
            simp only [ev0, evA, evB, evP, fl, gp, tab, simprocAttr, reduceCtorEq, reduceIte]
            refine fin_run trivial (hK _ ?_) <;> clear hK <;> clear K
            refine qa (qk (qb ?_))
            simp only [Try.results5, enA, ev0, evA, evB, evP, fl, gp, tab, simprocAttr, reduceCtorEq, reduceIte]
            all_goals (first | rfl | exact decide_eq_true (hfin g9a))
          · (try simp only [nhs] at hC3)
            obtain ⟨c0, d0⟩ : c.1 = 0 ∧ d.1 = 0 := by
              constructor
              · first | exact absurd g7a (by simpa using hC3) | simpa using hC3
              · first | exact g7a | (simp at hC3)
            have h0 : (ckL l).1 = 0 := by
              by_cases h : (ckL l).1 = 0
              · exact h
              · unfold rankS at hc; rw [if_pos h] at hc; rw [← hc] at c0; exact absurd c0 h
            have hn : 1 ≤ n ∧ n ≤ 26 := by
              unfold idxF at hd
              rw [if_neg (fun h => h h0)] at hd
              by_cases h : n < 1 ∨ 26 < n
              · rw [if_pos h] at hd; rw [← hd] at d0; cases d0
              · omega
            obtain ⟨m, rfl⟩ := Int.eq_ofNat_of_zero_le (show 0 ≤ n by omega)
            obtain ⟨v1, v2, v3, v4⟩ := ckL_cnt h0
            have hrv : r = (eS (l.map short) : Int) + 1 - vS (l.map short) := by
              rw [← hr]; unfold rankS; rw [if_neg (fun h => h h0)]
            have hkv : k = 0 ∨ (k = (vS (l.map short) : Int) ∧ eS (l.map short) = m * vS (l.map short)) := by
              rw [← hk]
              unfold indexS
              simp only [Int.toNat_natCast]
              split
              · exact .inl rfl
              · split
                · rename_i h; exact .inr ⟨rfl, h⟩
                · exact .inl rfl
            generalize vS (l.map short) = V at v2 v3 v4 hrv hkv
            generalize eS (l.map short) = E at v4 hrv hkv
            have hfin : k ≠ 0 → r - 1 = k * ((m : Int) - 1) := fun h => by
              obtain ⟨h1, h2⟩ := hkv.resolve_left h
              rw [hrv, h1, h2, Int.mul_sub, Int.mul_one]
              rw [show ((m * V : Nat) : Int) = (V : Int) * m by rw [Int.natCast_mul, Int.mul_comm]]
              omega
            have hkb : 0 ≤ k ∧ k ≤ 200001 := by rcases hkv with h | ⟨h, _⟩ <;> omega
            have hb : -6000000 ≤ k * ((m : Int) - 1) ∧ k * ((m : Int) - 1) ≤ 6000000 := by
              have h1 : 0 ≤ k * ((m : Int) - 1) := Int.mul_nonneg hkb.1 (by omega)
              have h2 : k * ((m : Int) - 1) ≤ 200001 * 25 := Int.mul_le_mul hkb.2 (by omega) (by omega) (by omega)
              omega
            refine qh (qa (qm ?_))
            by_cases g9a : k = 0
            · refine hk_region fun K hK => runs_eval tab_ok ?_
              simp only [ev0, evA, evB, evP, fl, gp, tab, simprocAttr, reduceCtorEq, reduceIte, decide_eq_true g9a]
              refine fin_run ?_ (hK _ ?_) <;> clear hK <;> clear K
              · first | trivial | (simp only [In64]; omega)
              refine qa (qk ?_)
              simp only [Try.results5, enA, ev0, evA, evB, evP, fl, gp, tab, simprocAttr, reduceCtorEq, reduceIte]
              all_goals (first | rfl | exact decide_eq_true (hfin g9a))
            · refine hk_region fun K hK => runs_eval tab_ok ?_
              simp only [ev0, evA, evB, evP, fl, gp, tab, simprocAttr, reduceCtorEq, reduceIte, decide_eq_false g9a]
              refine fin_run ?_ (hK _ ?_) <;> clear hK <;> clear K
              · first | trivial | (simp only [In64]; omega)
              refine qa (qk ?_)
              simp only [Try.results5, enA, ev0, evA, evB, evP, fl, gp, tab, simprocAttr, reduceCtorEq, reduceIte]
              all_goals (first | rfl | exact decide_eq_true (hfin g9a))
        · refine hk_region fun K hK => runs_eval tab_ok ?_
          simp only [ev0, evA, evB, evP, fl, gp, tab, simprocAttr, reduceCtorEq, reduceIte, decide_eq_false g7a]
          refine fin_run ?_ (hK _ ?_) <;> clear hK <;> clear K
          · (first | exact trivial | omega | (simp only [In64] at *; omega) | (simp [In64] at *; omega) | (simp_all; done) | skip)
          refine qa ?_
          refine hk_cond rfl (fun hC3 => ?_) (fun hC3 => ?_)
          · refine qm ?_
            refine hk_region fun K hK => runs_eval tab_ok ?_
            simp only [ev0, evA, evB, evP, fl, gp, tab, simprocAttr, reduceCtorEq, reduceIte]
            refine fin_run trivial (hK _ ?_) <;> clear hK <;> clear K
            refine qa (qk (qb ?_))
            simp only [Try.results5, enA, ev0, evA, evB, evP, fl, gp, tab, simprocAttr, reduceCtorEq, reduceIte]
            all_goals (first | rfl | exact decide_eq_true (hfin g9a))
          · cases hC3
    · refine hk_region fun K hK => runs_eval tab_ok ?_
      simp only [ev0, evA, evB, evP, fl, gp, tab, simprocAttr, reduceCtorEq, reduceIte]
      refine fin_stop trivial (runs_call ((h1 ▸ longWords_c l hl hlw)) rfl rfl rfl (by simp only [dstOk, Nat.reduceLT]) (by repeat (first | exact trivial | constructor)) (runs_eval tab_ok ?_))
      simp only [ev0, evA, evB, evP, fl, gp, tab, simprocAttr, reduceCtorEq, reduceIte]
      refine fin_run trivial (hK _ ?_) <;> clear hK <;> clear K
      refine qa ?_
      refine hk_cond rfl (fun hC2 => ?_) (fun hC2 => ?_)
      · (try simp only [nhs] at hC2)
        refine qm ?_
        refine hk_region fun K hK => runs_eval tab_ok ?_
        simp only [ev0, evA, evB, evP, fl, gp, tab, simprocAttr, reduceCtorEq, reduceIte]
        refine fin_run trivial (hK _ ?_) <;> clear hK <;> clear K
        refine qa (qk (qb ?_))
        simp only [Try.results5, enA, ev0, evA, evB, evP, fl, gp, tab, simprocAttr, reduceCtorEq, reduceIte]
        all_goals (first | rfl | exact decide_eq_true (hfin g9a))
      · (try simp only [nhs] at hC2)
        cases hC2
end Go.Proofs.Ytneglephfhiamaa
