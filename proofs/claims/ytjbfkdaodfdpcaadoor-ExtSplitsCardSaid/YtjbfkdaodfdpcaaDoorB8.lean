/-
  Texts of this proof, one behind the other: what each says stands at its head. Conditions: none.
-/
import Derived.Test.YtjbfkdaodfdpcaaDoorB6
import Derived.Test.YtjbfkdaodfdpcaaDoorB7
import Derived.Test.YtjbfkdaodfdpcaaDoorRows
import Derived.Test.YtjbfkdaodfdpcaaDoorB4
import Derived.ProofKit
import Derived.LaidMore
import Derived.OpenShut
import Derived.Stop.Joined

/-
  Walks: the law ExtSplits. Conditions: none.
-/
set_option linter.all false
namespace Go.Proofs.YtjbfkdaodfdpcaaDoor
open Go.Pv

section
variable {n e p : Nat} {m : List Int}
theorem ex_exg (h : GT n m n e) (hp : pr p) {f : List Int} (hf : (cf n m p f).1 = 0) {E : Nat} (hG : GT (n * p : Nat) (tbl (fun i k => ((exO n m p f i k : Nat) : Int)) (n * p)) (n * p) E) (hop : ∀ i k, i < n * p → k < n * p → op (tbl (fun i k => ((exO n m p f i k : Nat) : Int)) (n * p)) (n * p) i k = exO n m p f i k) :
    Exg n (op m n) e p (fun a b => (F2 n f a b).toNat) (op (tbl (fun i k => ((exO n m p f i k : Nat) : Int)) (n * p)) (n * p)) E :=
  ⟨h.2.2, hp.le.1, hG.2.2, fun i k hi hk => by rw [hop i k hi hk]; rfl⟩
theorem ex_same (h : GT n m n e) (hp : pr p) {f : List Int} (hf : (cf n m p f).1 = 0) : saB n m p f (List.replicate (n * n) 0) = true ↔ ∃ c : Nat → Int, ∀ a b, a < n → b < n → (p : Int) ∣ (((F2 n f a b).toNat : Nat) : Int) - (c a + c b - c (op m n a b)) := by
  obtain ⟨f1, f2, _, _⟩ := cf_0 hf
  have hn : 0 < n := h.2.1.pos
  have z2 : (cf n m p (List.replicate (n * n) 0)).1 = 0 := by rw [zero_cf h hp]
  rw [same_iff h hp hf z2]
  have hF : ∀ {a b}, a < n → b < n → (((F2 n f a b).toNat : Nat) : Int) = f.getD (a * n + b) 0 := fun {a b} ha hb => by
    have := f2 (a * n + b) (by have := at_lt ha hb; omega)
    exact Int.toNat_of_nonneg this.1
  constructor
  · rintro ⟨c, hc⟩
    refine ⟨c, fun a b ha hb => ?_⟩
    have ht := at_lt ha hb
    have h1 := hc (a * n + b) ht
    have e0 : (List.replicate (n * n) (0 : Int)).getD (a * n + b) 0 = 0 := by simp [ht]
    have e1 : (a * n + b) / n = a := by rw [Nat.mul_comm, Nat.mul_add_div hn, Nat.div_eq_of_lt hb, Nat.add_zero]
    have e2 : (a * n + b) % n = b := by rw [Nat.mul_comm, Nat.mul_add_mod, Nat.mod_eq_of_lt hb]
    rw [e0, Int.sub_zero] at h1
    unfold dB at h1
    rw [e1, e2] at h1
    rw [hF ha hb]; exact h1
  · rintro ⟨c, hc⟩
    refine ⟨c, fun t ht => ?_⟩
    have a1 : t / n < n := (Nat.div_lt_iff_lt_mul hn).2 ht
    have a2 : t % n < n := Nat.mod_lt _ hn
    have h1 := hc _ _ a1 a2
    rw [hF a1 a2, show t / n * n + t % n = t by rw [Nat.mul_comm]; exact Nat.div_add_mod t n] at h1
    have e0 : (List.replicate (n * n) (0 : Int)).getD t 0 = 0 := by simp [ht]
    rw [e0, Int.sub_zero]
    exact h1

theorem exSpl1_c {x : Nat} (p e : Nat) (hp : 2 ≤ p) (hx : x ≤ 1000) : FnC Tryd.prog 33 [.int .i64 x, .ptr [.int .i64 p], .ptr [.int .i64 e]] (.bool (krn p e x)) := by
  have htd : Int.tdiv (x : Int) (p : Int) = ((x / p : Nat) : Int) := rfl
  have hq := Nat.div_le_self x p
  refine fnc_of tab_ok Tryd.func33 rfl (by kernel_rfl) (by rw [Tryd.ntmps33]; exact Nat.le_add_left 3 _) ?_; rw [Tryd.ntmps33]
  refine qm ?_
  refine hk_region fun K hK => runs_eval tab_ok ?_
  simp only [ev0, evA, evB, evP, fl, gp, tab, simprocAttr, reduceCtorEq, reduceIte]
  refine fin_run trivial (hK _ ?_) <;> clear hK <;> clear K
  refine qa (qm ?_)
  refine hk_draw mixed (by kernel_rfl) fun K hK => runs_eval tab_ok ?_
  simp only [ev0, evA, evB, evP, fl, gp, tab, simprocAttr, reduceCtorEq, reduceIte, htd]
  refine fin_run ?_ (hK _ ?_) <;> clear hK <;> clear K
  · generalize x / p = q at hq ⊢
    first | (refine ⟨by omega, ?_⟩; simp only [In64]; omega) | (simp only [In64]; omega)
  refine qa (qk ?_)
  simp only [Tryd.results33, enA, ev0, evA, evB, evP, fl, gp, tab, simprocAttr, reduceCtorEq, reduceIte]
  unfold krn
  rw [decide_eq_decide]
  omega
theorem lawSpl_bad (N : Int) (m : List Int) (p : Int) (f : List Int) (w : Int × Int) (hw : ¬ w.1 = 0) (hM : FnC Tryd.prog 30 [gp N m, .int .i64 p, .list (il f)] (.tup [gp 0 [], fl w])) : FnC Tryd.prog 6 [gp N m, .int .i64 p, .list (il f)] (.bool true) := by
  refine fnc_of tab_ok Tryd.func6 rfl (by kernel_rfl) (by rw [Tryd.ntmps6]; exact Nat.le_add_left 3 _) ?_; rw [Tryd.ntmps6]
  refine qm ?_
  refine hk_region fun K hK => runs_eval tab_ok ?_
  simp only [ev0, evA, evB, evP, fl, gp, tab, simprocAttr, reduceCtorEq, reduceIte]
  refine fin_run ?_ (hK _ ?_) <;> clear hK <;> clear K
  · (first | exact trivial | omega | (simp only [In64] at *; omega) | (simp [In64] at *; omega) | (simp_all; done) | skip)
  refine qa (qm (qm ?_))
  refine hk_region fun K hK => runs_eval tab_ok ?_
  simp only [ev0, evA, evB, evP, fl, gp, tab, simprocAttr, reduceCtorEq, reduceIte]
  refine fin_stop trivial (runs_call (begun_x) rfl rfl rfl (by simp only [dstOk, Nat.reduceLT]) (by repeat (first | exact trivial | constructor)) (runs_eval tab_ok ?_))
  simp only [ev0, evA, evB, evP, fl, gp, tab, simprocAttr, reduceCtorEq, reduceIte]
  refine fin_run trivial (hK _ ?_) <;> clear hK <;> clear K
  refine qa ?_
  refine hk_cond rfl (fun hC1 => ?_) (fun hC1 => ?_)
  · cases hC1
  · (try simp only [nhs] at hC1)
    refine qh (qa (qm ?_))
    refine hk_region fun K hK => runs_eval tab_ok ?_
    simp only [ev0, evA, evB, evP, fl, gp, tab, simprocAttr, reduceCtorEq, reduceIte]
    refine fin_stop trivial (runs_call (hM) rfl rfl rfl (by simp only [dstOk, Nat.reduceLT]) (by repeat (first | exact trivial | constructor)) (runs_eval tab_ok ?_))
    simp only [ev0, evA, evB, evP, fl, gp, tab, simprocAttr, reduceCtorEq, reduceIte]
    refine fin_run ?_ (hK _ ?_) <;> clear hK <;> clear K
    · (first | exact trivial | omega | (simp only [In64] at *; omega) | (simp [In64] at *; omega) | (simp_all; done) | skip)
    refine qa (qm (qm ?_))
    refine hk_region fun K hK => runs_eval tab_ok ?_
    simp only [ev0, evA, evB, evP, fl, gp, tab, simprocAttr, reduceCtorEq, reduceIte, decide_eq_false hw]
    refine fin_run ?_ (hK _ ?_) <;> clear hK <;> clear K
    · (first | exact trivial | omega | (simp only [In64] at *; omega) | (simp [In64] at *; omega) | (simp_all; done) | skip)
    refine qa ?_
    refine hk_cond rfl (fun hC2 => ?_) (fun hC2 => ?_)
    · refine qm ?_
      refine hk_region fun K hK => runs_eval tab_ok ?_
      simp only [ev0, evA, evB, evP, fl, gp, tab, simprocAttr, reduceCtorEq, reduceIte]
      refine fin_run ?_ (hK _ ?_) <;> clear hK <;> clear K
      · (first | exact trivial | omega | (simp only [In64] at *; omega) | (simp [In64] at *; omega) | (simp_all; done) | skip)
      refine qa (qk (qb ?_))
      simp only [Tryd.results6, enA, ev0, evA, evB, evP, fl, gp, tab, simprocAttr, reduceCtorEq, reduceIte]
      all_goals (simp [hw])
    · cases hC2
set_option maxHeartbeats 4000000 in
theorem lawSpl_ok (h : GT n m n e) (hn : n ≤ 12) (hp : pr p) (f : List Int) (hl : f.length ≤ 17592186043904) (hx : (cf n m p f).1 = 0) (hb : n * p ≤ 60) : FnC Tryd.prog 6 [gp n m, .int .i64 p, .list (il f)] (.bool true) := by
  have hml := h.2.1.len
  have hsq : n * n ≤ 144 := Nat.mul_le_mul hn hn
  have hp2 := hp.le
  have c0 : (n : Int) * (p : Int) = ((n * p : Nat) : Int) := (Int.natCast_mul n p).symm
  have c1 : (n : Int) * (n : Int) = ((n * n : Nat) : Int) := (Int.natCast_mul n n).symm
  obtain ⟨f1, f2, _, hz⟩ := cf_0 hx
  obtain ⟨E, hG, hop⟩ := ex_tab h hp hx hb
  have X := ex_exg h hp hx hG hop
  have hsame := ex_same h hp hx
  have hspl := X.split
  have hMade := xmade_ok h hn hp f (by omega) hx hb
  have z2 : (cf n m p (List.replicate (n * n) 0)).1 = 0 := by rw [zero_cf h hp]
  have hsF := saF_0 hx z2
  have hNl : (tbl (fun i k => ((exO n m p f i k : Nat) : Int)) (n * p)).length = n * p * (n * p) := tbl_len _ _
  have hN2 : n * p * (n * p) ≤ 3600 := Nat.mul_le_mul hb hb
  generalize tbl (fun i k => ((exO n m p f i k : Nat) : Int)) (n * p) = M at *
  have hks := X.krn_sub
  have hkn := X.krn_nml
  have hcen : ∀ a, a < n * p → krn p e a = true → cent M (n * p) (fun _ => true) a = true := fun a ha hk => by
    unfold cent
    rw [decide_eq_true_eq]
    exact fun b hb _ => X.central ha hb hk
  refine fnc_of tab_ok Tryd.func6 rfl (by kernel_rfl) (by rw [Tryd.ntmps6]; exact Nat.le_add_left 3 _) ?_; rw [Tryd.ntmps6]
  refine qm ?_
  refine hk_region fun K hK => runs_eval tab_ok ?_
  simp only [ev0, evA, evB, evP, fl, gp, tab, simprocAttr, reduceCtorEq, reduceIte]
  refine fin_run ?_ (hK _ ?_) <;> clear hK <;> clear K
  · (first | exact trivial | omega | (simp only [In64] at *; omega) | (simp [In64] at *; omega) | (simp_all; done) | skip)
  refine qa (qm (qm ?_))
  refine hk_region fun K hK => runs_eval tab_ok ?_
  simp only [ev0, evA, evB, evP, fl, gp, tab, simprocAttr, reduceCtorEq, reduceIte]
  refine fin_stop trivial (runs_call (begun_x) rfl rfl rfl (by simp only [dstOk, Nat.reduceLT]) (by repeat (first | exact trivial | constructor)) (runs_eval tab_ok ?_))
  simp only [ev0, evA, evB, evP, fl, gp, tab, simprocAttr, reduceCtorEq, reduceIte]
  refine fin_run trivial (hK _ ?_) <;> clear hK <;> clear K
  refine qa ?_
  refine hk_cond rfl (fun hC1 => ?_) (fun hC1 => ?_)
  · cases hC1
  · (try simp only [nhs] at hC1)
    refine qh (qa (qm ?_))
    refine hk_region fun K hK => runs_eval tab_ok ?_
    simp only [ev0, evA, evB, evP, fl, gp, tab, simprocAttr, reduceCtorEq, reduceIte]
    refine fin_stop trivial (runs_call (hMade) rfl rfl rfl (by simp only [dstOk, Nat.reduceLT]) (by repeat (first | exact trivial | constructor)) (runs_eval tab_ok ?_))
    simp only [ev0, evA, evB, evP, fl, gp, tab, simprocAttr, reduceCtorEq, reduceIte]
    refine fin_run ?_ (hK _ ?_) <;> clear hK <;> clear K
    · (first | exact trivial | omega | (simp only [In64] at *; omega) | (simp [In64] at *; omega) | (simp_all; done) | skip)
    refine qa (qm (qm ?_))
    refine hk_region fun K hK => runs_eval tab_ok ?_
    simp only [ev0, evA, evB, evP, fl, gp, tab, simprocAttr, reduceCtorEq, reduceIte, c0, gf_of hG, bne_self_eq_false]
    refine fin_stop trivial (runs_call (gf_c (n * p : Nat) M (by omega)) rfl rfl rfl (by simp only [dstOk, Nat.reduceLT]) (by repeat (first | exact trivial | constructor)) (runs_eval tab_ok ?_))
    simp only [ev0, evA, evB, evP, fl, gp, tab, simprocAttr, reduceCtorEq, reduceIte, gf_of hG, c0, gf_of hG, bne_self_eq_false]
    refine fin_run ?_ (hK _ ?_) <;> clear hK <;> clear K
    · (first | exact trivial | omega | (simp only [In64] at *; omega) | (simp [In64] at *; omega) | (simp_all; done) | skip)
    refine qa ?_
    refine hk_cond rfl (fun hC2 => ?_) (fun hC2 => ?_)
    · cases hC2
    · (try simp only [nhs] at hC2)
      refine qh (qa (qm ?_))
      refine hk_region fun K hK => runs_eval tab_ok ?_
      simp only [ev0, evA, evB, evP, fl, gp, tab, simprocAttr, reduceCtorEq, reduceIte]
      refine fin_stop trivial (runs_call (e_c h.2.1) rfl rfl rfl (by simp only [dstOk, Nat.reduceLT]) (by repeat (first | exact trivial | constructor)) (runs_eval tab_ok ?_))
      simp only [ev0, evA, evB, evP, fl, gp, tab, simprocAttr, reduceCtorEq, reduceIte, h.eI]
      refine fin_run ?_ (hK _ ?_) <;> clear hK <;> clear K
      · (first | exact trivial | omega | (simp only [In64] at *; omega) | (simp [In64] at *; omega) | (simp_all; done) | skip)
      refine qa (qm ?_)
      refine hk_freeze 1 rfl rfl ?_
      refine hk_freeze 4 rfl rfl ?_
      simp only [hset]
      refine hk_region fun K hK => runs_eval tab_ok ?_
      simp only [ev0, evA, evB, evP, fl, gp, tab, simprocAttr, reduceCtorEq, reduceIte]
      refine fin_stop trivial (runs_call (those_c (n * p) M _ _ (krn p e) (by omega) (fun x hx => exSpl1_c p e hp2.1 (by omega))) rfl rfl rfl (by simp only [dstOk, Nat.reduceLT]) (by repeat (first | exact trivial | constructor)) (runs_eval tab_ok ?_))
      simp only [ev0, evA, evB, evP, fl, gp, tab, simprocAttr, reduceCtorEq, reduceIte]
      refine fin_run ?_ (hK _ ?_) <;> clear hK <;> clear K
      · (first | exact trivial | omega | (simp only [In64] at *; omega) | (simp [In64] at *; omega) | (simp_all; done) | skip)
      refine qa (qm ?_)
      refine hk_region fun K hK => runs_eval tab_ok ?_
      simp only [ev0, evA, evB, evP, fl, gp, tab, simprocAttr, reduceCtorEq, reduceIte]
      refine fin_stop trivial (runs_call (centre_ok hG) rfl rfl rfl (by simp only [dstOk, Nat.reduceLT]) (by repeat (first | exact trivial | constructor)) (runs_eval tab_ok ?_))
      simp only [ev0, evA, evB, evP, fl, gp, tab, simprocAttr, reduceCtorEq, reduceIte]
      refine fin_run ?_ (hK _ ?_) <;> clear hK <;> clear K
      · (first | exact trivial | omega | (simp only [In64] at *; omega) | (simp [In64] at *; omega) | (simp_all; done) | skip)
      refine qa (qm ?_)
      refine hk_region fun K hK => runs_eval tab_ok ?_
      simp only [ev0, evA, evB, evP, fl, gp, tab, simprocAttr, reduceCtorEq, reduceIte]
      refine fin_stop trivial (runs_call (normal_ok hG (krn p e) hks true (by simp [hkn])) rfl rfl rfl (by simp only [dstOk, Nat.reduceLT]) (by repeat (first | exact trivial | constructor)) (runs_eval tab_ok ?_))
      simp only [ev0, evA, evB, evP, fl, gp, tab, simprocAttr, reduceCtorEq, reduceIte]
      refine fin_run ?_ (hK _ ?_) <;> clear hK <;> clear K
      · (first | exact trivial | omega | (simp only [In64] at *; omega) | (simp [In64] at *; omega) | (simp_all; done) | skip)
      refine qa (qm (qm ?_))
      refine hk_region fun K hK => runs_eval tab_ok ?_
      simp only [ev0, evA, evB, evP, fl, gp, tab, simprocAttr, reduceCtorEq, reduceIte]
      refine fin_stop trivial (runs_call (parted_r (n * p) (krn p e) (cent M (n * p) fun _ => true) hb true ⟨fun _ => hcen, fun _ => rfl⟩) rfl rfl rfl (by simp only [dstOk, Nat.reduceLT]) (by repeat (first | exact trivial | constructor)) (runs_eval tab_ok ?_))
      simp only [ev0, evA, evB, evP, fl, gp, tab, simprocAttr, reduceCtorEq, reduceIte]
      refine fin_run ?_ (hK _ ?_) <;> clear hK <;> clear K
      · (first | exact trivial | omega | (simp only [In64] at *; omega) | (simp [In64] at *; omega) | (simp_all; done) | skip)
      refine qa ?_
      refine hk_cond rfl (fun hC3 => ?_) (fun hC3 => ?_)
      · cases hC3
      · (try simp only [nhs] at hC3)
        refine qh (qa (qm (qm ?_)))
        refine hk_region fun K hK => runs_eval tab_ok ?_
        simp only [ev0, evA, evB, evP, fl, gp, tab, simprocAttr, reduceCtorEq, reduceIte]
        refine fin_run ?_ (hK _ ?_) <;> clear hK <;> clear K
        · (first | exact trivial | omega | (simp only [In64] at *; omega) | (simp [In64] at *; omega) | (simp_all; done) | skip)
        refine qa ?_
        refine hk_cond rfl (fun hC4 => ?_) (fun hC4 => ?_)
        · (try simp only [nhs] at hC4)
          refine qm ?_
          refine hk_region fun K hK => runs_eval tab_ok ?_
          simp only [ev0, evA, evB, evP, fl, gp, tab, simprocAttr, reduceCtorEq, reduceIte]
          refine fin_run trivial (hK _ ?_) <;> clear hK <;> clear K
          refine qa (qk (qb ?_))
          simp only [Tryd.results6, enA, ev0, evA, evB, evP, fl, gp, tab, simprocAttr, reduceCtorEq, reduceIte]
          all_goals (rfl)
        · (try simp only [nhs] at hC4)
          have hn24 : n * p ≤ 24 := by omega
          obtain ⟨SL, hS⟩ := alls_ex hG.2.2 hb
          have hSl := hS.len hn24
          have hcl := sll_len (SL.filter (cpb (n * p) (krn p e)))
          have hle : (SL.filter (cpb (n * p) (krn p e))).length ≤ SL.length := List.length_filter_le _ _
          have hfin : saB n m p f (List.replicate (n * n) 0) = decide ((((SL.filter (cpb (n * p) (krn p e))).length : Nat) : Int) > 0) := by
            rw [Bool.eq_iff_iff, hsame, ← hspl, decide_eq_true_eq]
            constructor
            · rintro ⟨q, hq, hc⟩
              have := List.length_pos_of_mem (List.mem_filter.2 ⟨hS.all q hq, hc⟩)
              omega
            · intro hh
              obtain ⟨x, hx⟩ := List.exists_mem_of_length_pos (show 0 < (SL.filter (cpb (n * p) (krn p e))).length by omega)
              obtain ⟨hx1, hx2⟩ := List.mem_filter.1 hx
              obtain ⟨q, hq, rfl⟩ := hS.subs x hx1
              exact ⟨q, hq, hx2⟩
          refine qh (qa (qm ?_))
          refine hk_region fun K hK => runs_eval tab_ok ?_
          simp only [ev0, evA, evB, evP, fl, gp, tab, simprocAttr, reduceCtorEq, reduceIte]
          refine fin_stop trivial (runs_call (compl_ok hG hn24 hS hks hkn) rfl rfl rfl (by simp only [dstOk, Nat.reduceLT]) (by repeat (first | exact trivial | constructor)) (runs_eval tab_ok ?_))
          simp only [ev0, evA, evB, evP, fl, gp, tab, simprocAttr, reduceCtorEq, reduceIte]
          refine fin_run ?_ (hK _ ?_) <;> clear hK <;> clear K
          · (first | exact trivial | omega | (simp only [In64] at *; omega) | (simp [In64] at *; omega) | (simp_all; done) | skip)
          refine qa (qm ?_)
          refine hk_draw2 mixed fun K hK => runs2_eval tab_ok ?_
          simp only [evD, ev0, evA, evB, evP, fl, gp, tab, simprocAttr, reduceCtorEq, reduceIte, c1]
          refine fin2_stop ?_ (runs2_makeSlice tab_ok rfl rfl rfl rfl rfl rfl rfl rfl rfl (by simp only [dstOk, Nat.reduceLT]) ?_ (runs2_eval tab_ok ?_))
          · (first | exact trivial | omega | (simp only [In64] at *; omega) | (simp [In64] at *; omega) | (simp_all; done) | skip)
          · simp only [tab]; omega
          simp only [evD, ev0, evA, evB, evP, fl, gp, tab, simprocAttr, reduceCtorEq, reduceIte, c1]
          refine fin2_stop ?_ (runs2_callK 8 (same_ok h hn hp f (List.replicate (n * n) 0) (by omega) (by simp; omega)) rfl rfl (by first | exact ol_allP _ | exact opl_allP _ | (simp only [List.drop_zero, il_append, il_take, take_app2, ol_opl, il_length]; exact opl_allP _)) (by simp only [callA, List.map_cons, List.map_nil, enA, ev0, evA, evB, evP, fl, gp, tab, simprocAttr, reduceCtorEq, reduceIte, List.drop_zero, il_append, il_take, take_app2, ol_opl, il_length, il_all, List.take_replicate, Nat.min_self]; rfl) rfl (by simp only [dstOk, Nat.reduceLT]) (by repeat (first | exact trivial | (simp [il_length, List.length_append]; done) | constructor)) (runs2_eval tab_ok ?_))
          · (first | exact trivial | omega | (simp only [In64] at *; omega) | (simp [In64] at *; omega) | (simp_all; done) | skip)
          simp only [evD, ev0, evA, evB, evP, fl, gp, tab, simprocAttr, reduceCtorEq, reduceIte, hsF, c1]
          refine fin2_run ?_ (hK _ _ (by first | kernel_rfl | rfl) ?_) <;> clear hK <;> clear K
          · (first | exact trivial | omega | (simp only [In64] at *; omega) | (simp [In64] at *; omega) | (simp_all; done) | skip)
          refine qa (qm ?_)
          refine hk_region fun K hK => runs_eval tab_ok ?_
          simp only [ev0, evA, evB, evP, fl, gp, tab, simprocAttr, reduceCtorEq, reduceIte, ll_length, hcl, hfin, beq_self_eq_true]
          refine fin_run ?_ (hK _ ?_) <;> clear hK <;> clear K
          · (first | exact trivial | omega | (simp only [In64] at *; omega) | (simp [In64] at *; omega) | (simp_all; done) | skip)
          refine qa (qk ?_)
          simp only [Tryd.results6, enA, ev0, evA, evB, evP, fl, gp, tab, simprocAttr, reduceCtorEq, reduceIte]
          all_goals (rfl)
theorem lawSpl_c (N : Int) (m : List Int) (p : Int) (f : List Int) (hm : m.length ≤ 17592186043904) (hl : f.length ≤ 17592186043904) : FnC Tryd.prog 6 [gp N m, .int .i64 p, .list (il f)] (.bool true) := by
  by_cases hx : (xf N m p).1 = 0
  · obtain ⟨n, e, q, h, hn, rfl, hq, _⟩ := xf_ok hx
    obtain rfl := h.1
    by_cases hc : (cf n m q f).1 = 0
    · by_cases hb : n * q ≤ 60
      · exact lawSpl_ok h hn hq f hl hc hb
      · exact lawSpl_bad n m q f (9, 0) (by simp) (made_no3 h hn hq f (by omega) hc (by omega))
    · exact lawSpl_bad n m q f _ hc (made_no2 h hn hq f (by omega) hc)
  · exact lawSpl_bad N m p f _ hx (made_no1 N m p f (by omega) hx)
end
end Go.Proofs.YtjbfkdaodfdpcaaDoor

/-
  What the listed package-level variable gives a walk: a table of numbers. Conditions: none; written by a program of this repo.
-/
set_option linter.all false
namespace Go.Proofs.YtjbfkdaodfdpcaaDoor
open Go.Pv Go.ChangeShapes Go.WideShapes Go.ChangeAt Go.WideElems Go.RowKit

theorem own : ownKnob Tryd.prog.godebug = none := by kernel_rfl
theorem laidOut : laidOutB Tryd.prog = true := by kernel_rfl
theorem gG : Tryd.prog.globalNamed "math/bits.deBruijn64tab" = some 0 := by kernel_rfl
theorem tG : (Tryd.prog.globals[0]?).map (·.type) = some 145 := by kernel_rfl
theorem cG : Tryd.prog.cellsOf 5 = 1 := by kernel_rfl
/-- The door's own heap meets the condition. -/
theorem door_met (os : Os) (args : Array Value) : laidMetH Tryd.prog [("math/bits.deBruijn64tab", Rows.laid_math_bits_deBruijn64tab)] ((World.doorLaid Tryd.prog 4000 os).forCall (fun _ _ => 0) ⟨#[], args, []⟩).memory :=
  laidMetH_of_parts3 (fuel := 8) (laidMet_of_run' 8 (by kernel_rfl) (by kernel_rfl)) (by kernel_rfl) (by kernel_rfl)

def convD : DataW Unit → PV
  | .lit (.int k n) => .int k n
  | _ => .nil
def datum : List (DataW Unit) → List PV := List.map convD
theorem glob_datum : (match (Rows.laid_math_bits_deBruijn64tab : DataW Unit) with | .agg l => datum l | _ => []) = glob0 := rfl

theorem laid_ok {W : World} (h : laidMetH Tryd.prog [("math/bits.deBruijn64tab", Rows.laid_math_bits_deBruijn64tab)] W) : LaidW (fun b => b < W.heap.size) W := by
  refine ⟨fun b h => h, fun g l hg => ?_⟩
  have hg2 : g = 0 ∧ l = glob0 := by
    unfold gv at hg
    by_cases e : g = 0
    · subst e; exact ⟨rfl, (Option.some.inj hg).symm⟩
    · have : (g == 0) = false := by simpa using e
      rw [this] at hg; simp at hg
  obtain ⟨rfl, rfl⟩ := hg2
  rw [MakeChecks.laidMetH_plain _ _ _ (by kernel_rfl)] at h
  obtain ⟨ps, ⟨g0, t0, cs0, f0, p0, q0, hg0, ht0, hv0, hd0, _, _⟩, _, _⟩ := h
  obtain rfl := Option.some.inj (gG.symm.trans hg0)
  obtain rfl := Option.some.inj (tG.symm.trans ht0)
  obtain ⟨xs, m1, rfl, hx1, hlen, hn3, hel⟩ := DataW.trod_array Tryd.underlying145 hd0
  have hd1 : Rows.laid_math_bits_deBruijn64tab = DataW.agg (xs.map (·.1)) := congrArg Prod.fst hx1
  have hgl : glob0 = datum (xs.map (·.1)) := by
    rw [← glob_datum, hd1]
  have key : ∀ c (h : c < glob0.length), W.cell? ⟨0, 0 + c, none⟩ = some ((cs0[c]?).getD undef) ∧ Reads (fun b => b < W.heap.size) W glob0[c] ((cs0[c]?).getD undef) := by
    intro c hc
    have hc2 : c < 64 := Nat.lt_of_lt_of_le hc (by decide)
    have hcx : c < xs.length := by omega
    have h1 := hel c hc2
    rw [List.getElem?_eq_getElem hcx] at h1
    obtain ⟨k, e1, e2, _⟩ := DataW.trod_int Tryd.underlying5 h1
    rw [cG] at e1
    have e3 : cs0.toList[c]? = some (.int .u8 k) := by
      have := congrArg (fun l => l[0]?) e1
      simpa [List.getElem?_take, List.getElem?_drop] using this
    have e4 : cs0[c]? = some (.int .u8 k) := by simpa using e3
    have e5 : glob0[c] = .int .u8 k := by
      have : glob0[c]? = (datum (xs.map (·.1)))[c]? := by rw [hgl]
      rw [List.getElem?_eq_getElem hc] at this
      simp only [datum, List.getElem?_map, List.getElem?_eq_getElem hcx, Option.map_some, Option.some.injEq] at this
      exact this.trans (by rw [e2]; rfl)
    refine ⟨?_, ?_⟩
    · rw [e4, Nat.zero_add, World.var?_cell gG hv0 c, e4]; rfl
    · rw [e4]
      exact e5 ▸ (Reads.int .u8 k)
  refine .ptr _ _ _ (fun c => (cs0[c]?).getD undef) ?_ (fun c hc => (key c hc).1) fun c hc => (key c hc).2
  have := (key 0 (by decide)).1
  unfold World.cell? at this
  rcases Nat.lt_or_ge 0 W.heap.size with h | h
  · exact h
  · exfalso
    rw [Array.getElem?_eq_none h] at this
    simp at this
end Go.Proofs.YtjbfkdaodfdpcaaDoor
