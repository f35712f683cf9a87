/-
  Texts of this proof, one behind the other: what each says stands at its head. Conditions: none.
-/
import Derived.Test.YtjikchbmkodgfaaDoorB6
import Derived.Test.YtjikchbmkodgfaaDoorB3
import Derived.Test.YtjikchbmkodgfaaDoorB5
import Derived.Test.YtjikchbmkodgfaaDoorRows
import Derived.ProofKit
import Derived.LaidMore
import Derived.OpenShut
import Derived.Stop.Joined

/-
  Walks: rows of yes and no; the ring of so many things. Conditions: none.
-/
set_option linter.all false
namespace Go.Proofs.YtjikchbmkodgfaaDoor
open Go.Pv

/-- A row of yes and no. -/
def hbl (n : Nat) (g : Nat → Bool) : List PV := (List.range n).map fun i => .bool (g i)
theorem hbl_len (n : Nat) (g : Nat → Bool) : (hbl n g).length = n := by simp [hbl]
theorem hbl_get {n : Nat} {g : Nat → Bool} {i : Nat} (h : i < n) : (hbl n g).getD i default = .bool (g i) := by
  simp [hbl, List.getD, List.getElem?_eq_getElem, h]
theorem hbl_all (n : Nat) (g : Nat → Bool) : (hbl n g).all PV.one = true := by simp [hbl, PV.one]

def ixb (n : Nat) (g : Nat → Bool) : Int := match fst' (fun i => !g i) n with | some i => (i : Int) | none => -1
theorem ixb_iff (n : Nat) (g : Nat → Bool) : ixb n g ≥ 0 ↔ ∃ i, i < n ∧ g i = false := by
  unfold ixb
  cases h : fst' (fun i => !g i) n with
  | none =>
    constructor
    · intro h; simp at h
    · rintro ⟨i, hi, e⟩
      have := fst_spec0 h i hi
      rw [e] at this; simp at this
  | some i =>
    obtain ⟨h1, h2, _⟩ := fst_spec h
    exact ⟨fun _ => ⟨i, h1, by simpa using h2⟩, fun _ => by simp⟩

theorem indexB_c (n : Nat) (g : Nat → Bool) (hn : n ≤ 1000000) : FnC Tryd.prog 136 [.list (hbl n g), .bool false] (.int .i64 (ixb n g)) := by
  refine fnc_of tab_ok Tryd.func136 rfl (by kernel_rfl) (by rw [Tryd.ntmps136]; exact Nat.le_add_left 2 _) ?_; rw [Tryd.ntmps136]
  refine qm ?_
  refine hk_region fun K hK => runs_eval tab_ok ?_
  simp only [ev0, evA, evB, evP, fl, gp, tab, simprocAttr, reduceCtorEq, reduceIte]
  refine fin_run trivial (hK _ ?_) <;> clear hK <;> clear K
  refine qa (qm (qm ?_))
  refine hk_region fun K hK => runs_eval tab_ok ?_
  simp only [ev0, evA, evB, evP, fl, gp, tab, simprocAttr, reduceCtorEq, reduceIte, hbl_len]
  refine fin_run trivial (hK _ ?_) <;> clear hK <;> clear K
  refine qa (ql ?_)
  refine hk_loop (ι := Nat) (fun i => ⟨19, [(0, .p (.list (hbl n g))), (1, .p (.bool false)), (7, .p (.int .i64 n)), (8, .p (.int .i64 i))], []⟩) (fun i => i ≤ n ∧ ∀ j, j < i → g j = true) (fun i => n - i) 0 ⟨Nat.zero_le _, fun j hj => by omega⟩ [] (by simp only [leq, leA, ev0, evA, evB, evP, fl, gp, tab, simprocAttr, reduceCtorEq, reduceIte, hbl_len] <;> trivial) fun i hi => ?_
  obtain ⟨hi1, hi2⟩ := hi
  refine qm ?_
  refine hk_region fun K hK => runs_eval tab_ok ?_
  simp only [ev0, evA, evB, evP, fl, gp, tab, simprocAttr, reduceCtorEq, reduceIte]
  refine fin_run trivial (hK _ ?_) <;> clear hK <;> clear K
  refine qa (qm ?_)
  refine hk_cond rfl (fun hC1 => ?_) (fun hC1 => ?_)
  · (try simp only [nhs] at hC1)
    have hlt : i < n := by omega
    refine qh (qa (qm (ql (qm ?_))))
    refine hk_region fun K hK => runs_eval tab_ok ?_
    simp only [ev0, evA, evB, evP, fl, gp, tab, simprocAttr, reduceCtorEq, reduceIte]
    refine fin_run trivial (hK _ ?_) <;> clear hK <;> clear K
    refine qa (qm ?_)
    refine hk_region fun K hK => runs_eval tab_ok ?_
    simp only [ev0, evA, evB, evP, fl, gp, tab, simprocAttr, reduceCtorEq, reduceIte, hbl_len, hbl_get hlt]
    refine fin_run ?_ (hK _ ?_) <;> clear hK <;> clear K
    · (first | exact trivial | omega | (simp only [In64] at *; omega) | (simp [In64] at *; omega) | (simp_all; done) | skip)
    refine qa ?_
    refine hk_cond rfl (fun hC2 => ?_) (fun hC2 => ?_)
    · (try simp only [nhs] at hC2)
      refine qm ?_
      refine hk_region fun K hK => runs_eval tab_ok ?_
      simp only [ev0, evA, evB, evP, fl, gp, tab, simprocAttr, reduceCtorEq, reduceIte]
      refine fin_run trivial (hK _ ?_) <;> clear hK <;> clear K
      refine qa (qk (qe (qb (qb (qe (qb ?_))))))
      simp only [Tryd.results136, enA, ev0, evA, evB, evP, fl, gp, tab, simprocAttr, reduceCtorEq, reduceIte]
      all_goals (unfold ixb; rw [fst_some hlt (by cases hg : g i <;> simp_all) fun j hj => by simp [hi2 j hj]])
    · (try simp only [nhs] at hC2)
      refine qh (qd (qa ?_))
      refine hk_region fun K hK => runs_eval tab_ok ?_
      simp only [ev0, evA, evB, evP, fl, gp, tab, simprocAttr, reduceCtorEq, reduceIte]
      refine fin_run ?_ (hK _ ?_) <;> clear hK <;> clear K
      · (first | exact trivial | omega | (simp only [In64] at *; omega) | (simp [In64] at *; omega) | (simp_all; done) | skip)
      refine qa ?_
      refine ⟨i + 1, [], ⟨by omega, fun j hj => ?_⟩, by omega, ?_⟩
      · by_cases hj : j = i
        · subst hj; (cases hg : g j <;> simp_all)
        · exact hi2 j (by omega)
      · simp only [leq, leA, ev0, evA, evB, evP, fl, gp, tab, simprocAttr, reduceCtorEq, reduceIte] <;> first | trivial | omega
  · (try simp only [nhs] at hC1)
    refine qj (qc (qc (qf (qa (qm ?_)))))
    refine hk_region fun K hK => runs_eval tab_ok ?_
    simp only [ev0, evA, evB, evP, fl, gp, tab, simprocAttr, reduceCtorEq, reduceIte]
    refine fin_run trivial (hK _ ?_) <;> clear hK <;> clear K
    refine qa (qk ?_)
    simp only [Tryd.results136, enA, ev0, evA, evB, evP, fl, gp, tab, simprocAttr, reduceCtorEq, reduceIte]
    all_goals (unfold ixb; rw [fst_none fun j hj => by simp [hi2 j (by omega)]])

theorem containsB_c (n : Nat) (g : Nat → Bool) (hn : n ≤ 1000000) : FnC Tryd.prog 118 [.list (hbl n g), .bool false] (.bool (decide (ixb n g ≥ 0))) := by
  refine fnc_of tab_ok Tryd.func118 rfl (by kernel_rfl) (by rw [Tryd.ntmps118]; exact Nat.le_add_left 2 _) ?_; rw [Tryd.ntmps118]
  refine qm ?_
  refine hk_region fun K hK => runs_eval tab_ok ?_
  simp only [ev0, evA, evB, evP, fl, gp, tab, simprocAttr, reduceCtorEq, reduceIte]
  refine fin_run trivial (hK _ ?_) <;> clear hK <;> clear K
  refine qa (qm ?_)
  refine hk_region fun K hK => runs_eval tab_ok ?_
  simp only [ev0, evA, evB, evP, fl, gp, tab, simprocAttr, reduceCtorEq, reduceIte]
  refine fin_stop trivial (runs_call (indexB_c n g hn) rfl rfl rfl (by simp only [dstOk, Nat.reduceLT]) (by repeat (first | exact trivial | constructor)) (runs_eval tab_ok ?_))
  simp only [ev0, evA, evB, evP, fl, gp, tab, simprocAttr, reduceCtorEq, reduceIte]
  refine fin_run trivial (hK _ ?_) <;> clear hK <;> clear K
  refine qa (qk ?_)
  simp only [Tryd.results118, enA, ev0, evA, evB, evP, fl, gp, tab, simprocAttr, reduceCtorEq, reduceIte]
  all_goals ((first | exact rfl | exact ⟨rfl, rfl⟩ | exact ⟨rfl, rfl, rfl⟩ | exact ⟨trivial, rfl⟩ | exact ⟨Nat.le_refl _, rfl⟩ | trivial | (simp; done)))
end Go.Proofs.YtjikchbmkodgfaaDoor

/-
  The semidirect product of two groups: plain laws, with no program in sight. Conditions: none.
-/
set_option linter.all false
namespace Go.Proofs.YtjikchbmkodgfaaDoor
open Go.Pv

/-- A pair's product: the second acts on the other's first. -/
def smi (n' : Nat) (f f' al : Nat → Nat → Nat) (a b : Nat) : Nat := f (a / n') (al (a % n') (b / n')) * n' + f' (a % n') (b % n')

structure Acts (n n' : Nat) (f f' al : Nat → Nat → Nat) : Prop where
  lt : ∀ x i, x < n' → i < n → al x i < n
  hom : ∀ x i j, x < n' → i < n → j < n → al x (f i j) = f (al x i) (al x j)
  onto : ∀ x i, x < n' → i < n → ∃ j, j < n ∧ al x j = i
  mul : ∀ x y i, x < n' → y < n' → i < n → al (f' x y) i = al x (al y i)

section
variable {n n' e e' : Nat} {f f' al : Nat → Nat → Nat}

theorem pr_split {a : Nat} (hp : 0 < n') (ha : a < n * n') : a / n' < n ∧ a % n' < n' ∧ a / n' * n' + a % n' = a :=
  ⟨Nat.div_lt_of_lt_mul (by rw [Nat.mul_comm]; exact ha), Nat.mod_lt _ hp, by rw [Nat.mul_comm]; exact Nat.div_add_mod a n'⟩

theorem Acts.one (A : Acts n n' f f' al) (G' : Grp n' f' e') {i : Nat} (hi : i < n) : al e' i = i := by
  obtain ⟨j, hj, rfl⟩ := A.onto e' i G'.el hi
  rw [← A.mul e' e' j G'.el G'.el hj, G'.one_l e' G'.el]
theorem Acts.el (A : Acts n n' f f' al) (G : Grp n f e) {x : Nat} (hx : x < n') : al x e = e := by
  have h1 := A.lt x e hx G.el
  have h2 := A.hom x e e hx G.el G.el
  rw [G.one_l e G.el] at h2
  exact (G.idem h1).1 h2.symm

end
end Go.Proofs.YtjikchbmkodgfaaDoor

/-
  Walks: the ring of so many things; tables by a rule. Conditions: none.
-/
set_option linter.all false
namespace Go.Proofs.YtjikchbmkodgfaaDoor
open Go.Pv

theorem ringOf_c (n : Nat) (h1 : 1 ≤ n) (hn : n ≤ 60) : FnC Tryd.prog 85 [.int .i64 n] (gp n (tbl (fun a b => (((a + b) % n : Nat) : Int)) n)) := by
  have hsq := sq_le hn
  have hlen := tbr_len (fun a b => (((a + b) % n : Nat) : Int)) n
  refine fnc_of tab_ok Tryd.func85 rfl (by kernel_rfl) (by rw [Tryd.ntmps85]; exact Nat.le_add_left 1 _) ?_; rw [Tryd.ntmps85]
  refine qm ?_
  refine hk_region fun K hK => runs_eval tab_ok ?_
  simp only [ev0, evA, evB, evP, fl, gp, tab, simprocAttr, reduceCtorEq, reduceIte]
  refine fin_run ?_ (hK _ ?_) <;> clear hK <;> clear K
  · (first | exact trivial | omega | (simp only [In64] at *; omega) | (simp [In64] at *; omega) | (simp_all; done) | skip)
  refine qa (qm ?_)
  refine hk_region fun K hK => runs_eval tab_ok ?_
  simp only [ev0, evA, evB, evP, fl, gp, tab, simprocAttr, reduceCtorEq, reduceIte]
  refine fin_run ?_ (hK _ ?_) <;> clear hK <;> clear K
  · (first | exact trivial | omega | (simp only [In64] at *; omega) | (simp [In64] at *; omega) | (simp_all; done) | skip)
  refine qa (qm (qm ?_))
  refine hk_own0c 1 1 rfl rfl ?_
  simp only [hset, List.cons_append, List.nil_append, List.set, List.length_cons, List.length_nil]
  refine hk_region fun K hK => runs_eval tab_ok ?_
  simp only [ev0, evA, evB, evP, fl, gp, tab, simprocAttr, reduceCtorEq, reduceIte]
  refine fin_run trivial (hK _ ?_) <;> clear hK <;> clear K
  refine qa (ql ?_)
  refine hk_loop (ι := Nat) (fun a => ⟨29, [(0, .p (.int .i64 n)), (2, .ptr 0 0), (3, .ptr 1 0), (4, .p (.int .i64 a))], [.own [.p (.int .i64 0), .p .nil], .own [.p (.int .i64 n), .sl 2 0 (tbr (fun a b => (((a + b) % n : Nat) : Int)) n (a * n)).length], .own (ol (tbr (fun a b => (((a + b) % n : Nat) : Int)) n (a * n)))]⟩) (fun a => a ≤ n) (fun a => n - a) 0 (Nat.zero_le _) [0, 1, 2] (by rw [Nat.zero_mul]; simp only [leq, leA, ev0, evA, evB, evP, fl, gp, tab, simprocAttr, reduceCtorEq, reduceIte] <;> simp [tbr, rg, ol_nil]) fun a ha => ?_
  refine qm (qm ?_)
  refine hk_region fun K hK => runs_eval tab_ok ?_
  simp only [ev0, evA, evB, evP, fl, gp, tab, simprocAttr, reduceCtorEq, reduceIte]
  refine fin_run trivial (hK _ ?_) <;> clear hK <;> clear K
  refine qa ?_
  refine hk_cond rfl (fun hC1 => ?_) (fun hC1 => ?_)
  · (try simp only [nhs] at hC1)
    have hal : a < n := by omega
    refine qh (qa (qm (ql (qm ?_))))
    refine hk_region fun K hK => runs_eval tab_ok ?_
    simp only [ev0, evA, evB, evP, fl, gp, tab, simprocAttr, reduceCtorEq, reduceIte]
    refine fin_run trivial (hK _ ?_) <;> clear hK <;> clear K
    refine qa (ql ?_)
    refine hk_loop (ι := Nat) (fun b => ⟨29, [(0, .p (.int .i64 n)), (2, .ptr 0 0), (3, .ptr 1 0), (4, .p (.int .i64 a)), (5, .p (.int .i64 b))], [.own [.p (.int .i64 0), .p .nil], .own [.p (.int .i64 n), .sl 2 0 (tbr (fun a b => (((a + b) % n : Nat) : Int)) n (a * n + b)).length], .own (ol (tbr (fun a b => (((a + b) % n : Nat) : Int)) n (a * n + b)))]⟩) (fun b => b ≤ n) (fun b => n - b) 0 (Nat.zero_le _) [0, 1, 2] (by rw [Nat.add_zero]; simp only [leq, leA, ev0, evA, evB, evP, fl, gp, tab, simprocAttr, reduceCtorEq, reduceIte] <;> trivial) fun b hb => ?_
    refine qm (qm ?_)
    refine hk_region fun K hK => runs_eval tab_ok ?_
    simp only [ev0, evA, evB, evP, fl, gp, tab, simprocAttr, reduceCtorEq, reduceIte]
    refine fin_run trivial (hK _ ?_) <;> clear hK <;> clear K
    refine qa ?_
    refine hk_cond rfl (fun hC2 => ?_) (fun hC2 => ?_)
    · (try simp only [nhs] at hC2)
      have hbl : b < n := by omega
      have hat := at_lt hal hbl
      have hl := hlen (a * n + b)
      have hab : (a : Int) + (b : Int) = ((a + b : Nat) : Int) := rfl
      refine qh (qa (qm (ql ?_)))
      refine hk_draw mixed (by kernel_rfl) fun K hK => runs_eval tab_ok ?_
      simp only [ev0, evA, evB, evP, fl, gp, tab, simprocAttr, reduceCtorEq, reduceIte, hab, tm_nat]
      refine fin_run ?_ (hK _ ?_) <;> clear hK <;> clear K
      · (first | exact trivial | omega | (simp only [In64] at *; omega) | (simp [In64] at *; omega) | (simp_all; done) | skip)
      refine qd (qa ?_)
      refine hk_region fun K hK => runs_eval tab_ok ?_
      simp only [ev0, evA, evB, evP, fl, gp, tab, simprocAttr, reduceCtorEq, reduceIte]
      refine fin_run ?_ (hK _ ?_) <;> clear hK <;> clear K
      · (first | exact trivial | omega | (simp only [In64] at *; omega) | (simp [In64] at *; omega) | (simp_all; done) | skip)
      refine qa ?_
      refine ⟨b + 1, [0, 1, 3], by omega, by omega, ?_⟩
      rw [tbr_succ _ hbl]
      simp only [leq, leA, ev0, evA, evB, evP, fl, gp, tab, simprocAttr, reduceCtorEq, reduceIte] <;> first | trivial | omega
    · (try simp only [nhs] at hC2)
      have hbn : b = n := by omega
      refine qj (qc (qc (qf (qd (qa ?_)))))
      refine hk_region fun K hK => runs_eval tab_ok ?_
      simp only [ev0, evA, evB, evP, fl, gp, tab, simprocAttr, reduceCtorEq, reduceIte]
      refine fin_run ?_ (hK _ ?_) <;> clear hK <;> clear K
      · (first | exact trivial | omega | (simp only [In64] at *; omega) | (simp [In64] at *; omega) | (simp_all; done) | skip)
      refine qa ?_
      refine ⟨a + 1, [0, 1, 2], by omega, by omega, ?_⟩
      rw [hbn, show (a + 1) * n = a * n + n by rw [Nat.add_mul, Nat.one_mul]]
      simp only [leq, leA, ev0, evA, evB, evP, fl, gp, tab, simprocAttr, reduceCtorEq, reduceIte] <;> first | trivial | omega
  · (try simp only [nhs] at hC1)
    have han : a = n := by omega
    refine qj (qc (qc (qf (qa (qm ?_)))))
    refine hk_region fun K hK => runs_eval tab_ok ?_
    simp only [ev0, evA, evB, evP, fl, gp, tab, simprocAttr, reduceCtorEq, reduceIte]
    refine fin_run ?_ (hK _ ?_) <;> clear hK <;> clear K
    · (first | exact trivial | omega | (simp only [In64] at *; omega) | (simp [In64] at *; omega) | (simp_all; done) | skip)
    refine qa (qk ?_)
    simp only [Tryd.results85, enA, ev0, evA, evB, evP, fl, gp, tab, simprocAttr, reduceCtorEq, reduceIte]
    all_goals (simp [han, tbl])
end Go.Proofs.YtjikchbmkodgfaaDoor

/-
  Semidirect products: the fault, and what no fault says. Conditions: none.
-/
set_option linter.all false
namespace Go.Proofs.YtjikchbmkodgfaaDoor
open Go.Pv

/-- The code of a row's fault: a map of the group to itself that is one to one. -/
def rwc (N : Int) (m l : List Int) : Int := if ¬ (homf N m N m l).1 = 0 then (homf N m N m l).1 else if ¬ onto1 l N.toNat then 10 else 0
def mgd (m' : List Int) (n' : Nat) (ls : List (List Int)) (x : Nat) : Prop := ∀ y, y < n' → ls.getD (op m' n' x y) [] = cmpl (ls.getD y []) (ls.getD x [])
instance (m' : List Int) (n' : Nat) (ls : List (List Int)) (x : Nat) : Decidable (mgd m' n' ls x) := by unfold mgd; infer_instance
def psf2 (m' : List Int) (ls : List (List Int)) (n n' : Nat) : Int × Int :=
  match fst' (fun x => decide (¬ mgd m' n' ls x)) n' with
  | some x => (7, (x : Int))
  | none => if n * n' > 60 then (9, 0) else (0, 0)
/-- THE FAULT of a group that acts on a group. -/
def psf (N : Int) (m : List Int) (N' : Int) (m' : List Int) (ls : List (List Int)) : Int × Int :=
  if ¬ (tg N m N' m').1 = 0 then tg N m N' m'
  else if ¬ (ls.length : Int) = N' then (8, 0)
  else match fst' (fun i => decide (¬ rwc N m (ls.getD i []) = 0)) ls.length with
    | some i => (rwc N m (ls.getD i []), (i : Int))
    | none => psf2 m' ls N.toNat N'.toNat

section
variable {N N' : Int} {m m' : List Int} {ls : List (List Int)} {n n' : Nat}
theorem rwc_ok {l : List Int} (h : rwc n m l = 0) : Hom m m l n n ∧ onto1 l n := by
  unfold rwc at h
  by_cases h1 : (homf n m n m l).1 = 0
  · rw [if_neg (by simpa using h1)] at h
    by_cases h2 : onto1 l (n : Int).toNat
    · obtain ⟨a, e, a', e', g, g', hh, _⟩ := homf_ok h1
      have q1 := g.1
      have q2 := g'.1
      obtain rfl : a = n := by omega
      obtain rfl : a' = a := by omega
      exact ⟨hh, h2⟩
    · rw [if_pos h2] at h; simp at h
  · rw [if_pos h1] at h; exact absurd h h1

/-- What acts, as a rule. -/
def alp (ls : List (List Int)) (x i : Nat) : Nat := hv (ls.getD x []) i
theorem acts_of (hl : ls.length = n') (hr : ∀ j, j < n' → rwc n m (ls.getD j []) = 0) (hm : ∀ j, j < n' → mgd m' n' ls j) (T : Tab n m) : Acts n n' (op m n) (op m' n') (alp ls) := by
  refine ⟨fun x i hx hi => ((rwc_ok (hr x hx)).1.2.1 i hi).2, fun x i j hx hi hj => ((rwc_ok (hr x hx)).1.2.2 i hi j hj).symm, fun x i hx hi => ?_, fun x y i hx hy hi => ?_⟩
  · obtain ⟨⟨h1, h2, _⟩, h4, _⟩ := rwc_ok (hr x hx)
    obtain ⟨j, hj, e⟩ := List.getElem_of_mem (h4 i hi)
    refine ⟨j, by omega, ?_⟩
    unfold alp hv
    clear h2
    generalize ls.getD x [] = p at *
    simp [List.getD, List.getElem?_eq_getElem hj, e]
  · obtain ⟨⟨h1, h2, _⟩, _⟩ := rwc_ok (hr y hy)
    have e := hm x hx y hy
    unfold alp
    rw [e]
    unfold hv cmpl
    have hiy : i < (ls.getD y []).length := by omega
    clear h2 e
    generalize ls.getD x [] = p at *
    generalize ls.getD y [] = q at *
    simp only [List.getD, List.getElem?_map, List.getElem?_eq_getElem hiy, Option.map_some, Option.getD_some]
end
end Go.Proofs.YtjikchbmkodgfaaDoor

/-
  Walks: prod.Semi. Conditions: none.
-/
set_option linter.all false
namespace Go.Proofs.YtjikchbmkodgfaaDoor
open Go.Pv

theorem prodFlt_c (c a : Int) : FnC Tryd.prog 81 [.int .i64 c, .int .i64 a] (fl (c, a)) := by
  refine fnc_of tab_ok Tryd.func81 rfl (by kernel_rfl) (by rw [Tryd.ntmps81]; exact Nat.le_add_left 2 _) ?_; rw [Tryd.ntmps81]
  refine qm ?_
  refine hk_region fun K hK => runs_eval tab_ok ?_
  simp only [ev0, evA, evB, evP, fl, gp, tab, simprocAttr, reduceCtorEq, reduceIte]
  refine fin_run ?_ (hK _ ?_) <;> clear hK <;> clear K
  · (first | exact trivial | omega | (simp only [In64] at *; omega) | (simp [In64] at *; omega) | (simp_all; done) | skip)
  refine qa (qm ?_)
  refine hk_region fun K hK => runs_eval tab_ok ?_
  simp only [ev0, evA, evB, evP, fl, gp, tab, simprocAttr, reduceCtorEq, reduceIte]
  refine fin_run ?_ (hK _ ?_) <;> clear hK <;> clear K
  · (first | exact trivial | omega | (simp only [In64] at *; omega) | (simp [In64] at *; omega) | (simp_all; done) | skip)
  refine qa (qk ?_)
  simp only [Tryd.results81, enA, ev0, evA, evB, evP, fl, gp, tab, simprocAttr, reduceCtorEq, reduceIte]
  all_goals (rfl)

/-- The group that acts on a group makes. -/
def sg (n n' : Nat) (m m' : List Int) (ls : List (List Int)) : List Int := tbl (fun a b => (smi n' (op m n) (op m' n') (alp ls) a b : Nat)) (n * n')
def sgr (N : Int) (m : List Int) (N' : Int) (m' : List Int) (ls : List (List Int)) : PV := if (psf N m N' m' ls).1 = 0 then gp (N.toNat * N'.toNat : Nat) (sg N.toNat N'.toNat m m' ls) else gp 0 []

def hits (l : List Int) (k i : Nat) : Bool := decide (((i : Nat) : Int) ∈ l.take k)
def sgm (n n' : Nat) (m m' : List Int) (ls : List (List Int)) (a b : Nat) : Int := (smi n' (op m n) (op m' n') (alp ls) a b : Nat)

theorem hbl_new (n : Nat) : List.replicate n (AV.p (.bool false)) = opl (hbl n fun _ => false) := by
  refine List.ext_getElem (by simp [opl, hbl]) fun i h1 h2 => ?_
  simp [opl, hbl]
theorem hbl_set (n : Nat) (g : Nat → Bool) (v : Nat) : (opl (hbl n g)).set v (AV.p (.bool true)) = opl (hbl n fun i => decide (i = v) || g i) := by
  refine List.ext_getElem (by simp [opl, hbl]) fun i h1 h2 => ?_
  simp only [opl, hbl, List.getElem_set, List.getElem_map, List.getElem_range]
  by_cases h : v = i
  · subst h; simp
  · rw [if_neg h]; simp [Ne.symm h]
theorem hits_zero (l : List Int) (i : Nat) : hits l 0 i = false := by simp [hits]
theorem hits_succ {l : List Int} {k v : Nat} (hk : k < l.length) (hv : l.getD k 0 = ((v : Nat) : Int)) (i : Nat) : hits l (k + 1) i = (decide (i = v) || hits l k i) := by
  unfold hits
  have e : l[k] = ((v : Nat) : Int) := by rw [← hv]; simp [List.getD, List.getElem?_eq_getElem hk]
  rw [List.take_succ_eq_append_getElem hk, e, Bool.eq_iff_iff]
  simp only [List.mem_append, List.mem_singleton, Bool.or_eq_true, decide_eq_true_eq]
  constructor
  · rintro (h | h)
    · exact .inr h
    · exact .inl (by omega)
  · rintro (h | h)
    · exact .inr (by omega)
    · exact .inl h
theorem hbl_congr {n : Nat} {g g' : Nat → Bool} (h : ∀ i, i < n → g i = g' i) : hbl n g = hbl n g' := by
  unfold hbl
  exact List.map_congr_left fun i hi => by rw [h i (List.mem_range.1 hi)]

end Go.Proofs.YtjikchbmkodgfaaDoor

/-
  Complements of a normal part: the program's, the document's. Conditions: none.
-/
set_option linter.all false
namespace Go.Proofs.YtjikchbmkodgfaaDoor
open Go.Pv

section
variable {n e : Nat} {m : List Int}
/-- The complements among the first ones. -/
def cpl (n : Nat) (p : Nat → Bool) (SL : List Nat) (i : Nat) : List Nat := (SL.take i).filter (cpb n p)
theorem cpl_len {p : Nat → Bool} {SL : List Nat} {i : Nat} : (cpl n p SL i).length ≤ SL.length :=
  Nat.le_trans (List.length_filter_le _ _) (by rw [List.length_take]; omega)
theorem cpl_t {p : Nat → Bool} {SL : List Nat} {i : Nat} (hi : i < SL.length) (h : cpb n p (SL.getD i 0) = true) : cpl n p SL (i + 1) = cpl n p SL i ++ [SL.getD i 0] := by
  unfold cpl
  rw [List.take_succ_eq_append_getElem hi, List.filter_append]
  have : SL.getD i 0 = SL[i] := by simp [List.getD, List.getElem?_eq_getElem hi]
  rw [this] at h ⊢
  simp [List.filter_cons, h]
theorem cpl_f {p : Nat → Bool} {SL : List Nat} {i : Nat} (hi : i < SL.length) (h : cpb n p (SL.getD i 0) = false) : cpl n p SL (i + 1) = cpl n p SL i := by
  unfold cpl
  rw [List.take_succ_eq_append_getElem hi, List.filter_append]
  have : SL.getD i 0 = SL[i] := by simp [List.getD, List.getElem?_eq_getElem hi]
  rw [this] at h
  simp [List.filter_cons, h]
theorem cpl_all {p : Nat → Bool} {SL : List Nat} : cpl n p SL SL.length = SL.filter (cpb n p) := by unfold cpl; rw [List.take_length]
theorem sll_put (L : List Nat) (x : Nat) : sll (L ++ [x]) = sll L ++ [stl x] := by simp [sll]

set_option maxRecDepth 20000 in
theorem compl_ok (h : GT n m n e) (hn : n ≤ 24) {SL : List Nat} (hS : AllS n (op m n) e SL) {p : Nat → Bool} (hp : Sub n (op m n) e p) (hN : Nml n (op m n) e p) : FnC Tryd.prog 32 [gp n m, .list (il (thl n p))] (.tup [.list (ll (sll (SL.filter (cpb n p)))), fl (0, 0)]) := by
  have G := h.2.2
  have hb := h.2.1.big
  have hSl := hS.len hn
  have lp := thl_le n p
  have ep : (thl n p).length = (mem n p).length := thl_len _ _
  refine fnc_of tab_ok Tryd.func32 rfl (by kernel_rfl) (by rw [Tryd.ntmps32]; exact Nat.le_add_left 2 _) ?_; rw [Tryd.ntmps32]
  refine qm ?_
  refine hk_region fun K hK => runs_eval tab_ok ?_
  simp only [ev0, evA, evB, evP, fl, gp, tab, simprocAttr, reduceCtorEq, reduceIte]
  refine fin_run ?_ (hK _ ?_) <;> clear hK <;> clear K
  · (first | exact trivial | omega | (simp only [In64] at *; omega) | (simp [In64] at *; omega) | (simp_all; done) | skip)
  refine qa (qm ?_)
  refine hk_region fun K hK => runs_eval tab_ok ?_
  simp only [ev0, evA, evB, evP, fl, gp, tab, simprocAttr, reduceCtorEq, reduceIte]
  refine fin_stop trivial (runs_call (normal_ok h p hp true (by simp [hN])) rfl rfl rfl (by simp only [dstOk, Nat.reduceLT]) (by repeat (first | exact trivial | constructor)) (runs_eval tab_ok ?_))
  simp only [ev0, evA, evB, evP, fl, gp, tab, simprocAttr, reduceCtorEq, reduceIte]
  refine fin_run ?_ (hK _ ?_) <;> clear hK <;> clear K
  · (first | exact trivial | omega | (simp only [In64] at *; omega) | (simp [In64] at *; omega) | (simp_all; done) | skip)
  refine qa (qm (qm ?_))
  refine hk_region fun K hK => runs_eval tab_ok ?_
  simp only [ev0, evA, evB, evP, fl, gp, tab, simprocAttr, reduceCtorEq, reduceIte]
  refine fin_run ?_ (hK _ ?_) <;> clear hK <;> clear K
  · (first | exact trivial | omega | (simp only [In64] at *; omega) | (simp [In64] at *; omega) | (simp_all; done) | skip)
  refine qa ?_
  refine hk_cond rfl (fun hC1 => ?_) (fun hC1 => ?_)
  · cases hC1
  · (try simp only [nhs] at hC1)
    refine qh (qa (qm (qm ?_)))
    refine hk_region fun K hK => runs_eval tab_ok ?_
    simp only [ev0, evA, evB, evP, fl, gp, tab, simprocAttr, reduceCtorEq, reduceIte]
    refine fin_run trivial (hK _ ?_) <;> clear hK <;> clear K
    refine qa ?_
    refine hk_cond rfl (fun hC2 => ?_) (fun hC2 => ?_)
    · cases hC2
    · (try simp only [nhs] at hC2)
      refine qh (qa (qm (qm ?_)))
      refine hk_region fun K hK => runs_eval tab_ok ?_
      simp only [ev0, evA, evB, evP, fl, gp, tab, simprocAttr, reduceCtorEq, reduceIte]
      refine fin_run ?_ (hK _ ?_) <;> clear hK <;> clear K
      · (first | exact trivial | omega | (simp only [In64] at *; omega) | (simp [In64] at *; omega) | (simp_all; done) | skip)
      refine qa ?_
      refine hk_cond rfl (fun hC3 => ?_) (fun hC3 => ?_)
      · (try simp only [nhs] at hC3)
        omega
      · (try simp only [nhs] at hC3)
        refine qh (qa (qm ?_))
        refine hk_region fun K hK => runs_eval tab_ok ?_
        simp only [ev0, evA, evB, evP, fl, gp, tab, simprocAttr, reduceCtorEq, reduceIte]
        refine fin_run trivial (hK _ ?_) <;> clear hK <;> clear K
        refine qa (qm (qm ?_))
        refine hk_own0 8 rfl ?_
        refine hk_region fun K hK => runs_eval tab_ok ?_
        simp only [ev0, evA, evB, evP, fl, gp, tab, simprocAttr, reduceCtorEq, reduceIte, ul_length]
        refine fin_stop trivial (runs_call (allOf_c h hn hS) rfl rfl rfl (by simp only [dstOk, Nat.reduceLT]) (by repeat (first | exact trivial | constructor)) (runs_eval tab_ok ?_))
        simp only [ev0, evA, evB, evP, fl, gp, tab, simprocAttr, reduceCtorEq, reduceIte, ul_length]
        refine fin_run ?_ (hK _ ?_) <;> clear hK <;> clear K
        · (first | exact trivial | omega | (simp only [In64] at *; omega) | (simp [In64] at *; omega) | (simp_all; done) | skip)
        refine qa (ql ?_)
        refine hk_loop (ι := Nat) (fun i => ⟨62, [(1, .p (.list (il (thl n p)))), (2, .ptr 0 0), (5, .ptr 1 0), (8, .sl 2 0 (sll (cpl n p SL i)).length), (30, .p (.list (ul SL))), (31, .p (.int .i64 SL.length)), (32, .p (.int .i64 i))], [.own [.p (.int .i64 n), .p (.list (il m))], .own [.p (.int .i64 0), .p (.int .i64 0)], .own (opl (ll (sll (cpl n p SL i))))]⟩) (fun i => i ≤ SL.length) (fun i => SL.length - i) 0 (Nat.zero_le _) [0, 1, 3] (by simp only [leq, leA, ev0, evA, evB, evP, fl, gp, tab, simprocAttr, reduceCtorEq, reduceIte, ll_takeL] <;> first | trivial | exact ⟨rfl, rfl⟩ | simp [sll, cpl]) fun i hi => ?_
        refine qm ?_
        refine hk_region fun K hK => runs_eval tab_ok ?_
        simp only [ev0, evA, evB, evP, fl, gp, tab, simprocAttr, reduceCtorEq, reduceIte]
        refine fin_run trivial (hK _ ?_) <;> clear hK <;> clear K
        refine qa (qm ?_)
        refine hk_cond rfl (fun hC4 => ?_) (fun hC4 => ?_)
        · (try simp only [nhs] at hC4)
          have hlt : i < SL.length := by omega
          obtain ⟨q, hq, hxq⟩ := hS.subs _ (getD_memN hlt)
          have hq64 := bo_lt64 hb q
          have hst := stl_bo hb q
          have lq := thl_le n q
          have eq' : (thl n q).length = (mem n q).length := thl_len _ _
          have hl1 := sll_len (cpl n p SL i)
          have hl2 := cpl_len (n := n) (p := p) (SL := SL) (i := i)
          have hll := ll_length (sll (cpl n p SL i))
          have hmul : (thl n q).length * (thl n p).length ≤ 60 * 60 := Nat.mul_le_mul (by omega) (by omega)
          have hmi : ((thl n q).length : Int) * ((thl n p).length : Int) = (((thl n q).length * (thl n p).length : Nat) : Int) := by rw [Int.natCast_mul]
          have hcb := cpb_bo (n := n) (p := p) (q := q)
          rw [← eq', ← ep, ← hxq] at hcb
          refine qh (qa (qm (ql (qm ?_))))
          refine hk_region fun K hK => runs_eval tab_ok ?_
          simp only [ev0, evA, evB, evP, fl, gp, tab, simprocAttr, reduceCtorEq, reduceIte, ul_get hlt, hxq, ul_length]
          refine fin_run ?_ (hK _ ?_) <;> clear hK <;> clear K
          · (first | exact trivial | omega | (simp only [In64] at *; omega) | (simp [In64] at *; omega) | (simp_all; done) | skip)
          refine qa (qm ?_)
          refine hk_region fun K hK => runs_eval tab_ok ?_
          simp only [ev0, evA, evB, evP, fl, gp, tab, simprocAttr, reduceCtorEq, reduceIte]
          refine fin_stop trivial (runs_call (list_s (bo n q) hq64) rfl rfl rfl (by simp only [dstOk, Nat.reduceLT]) (by repeat (first | exact trivial | constructor)) (runs_eval tab_ok ?_))
          simp only [ev0, evA, evB, evP, fl, gp, tab, simprocAttr, reduceCtorEq, reduceIte]
          refine fin_run trivial (hK _ ?_) <;> clear hK <;> clear K
          refine qa (qm ?_)
          by_cases k1 : (thl n q).length * (thl n p).length = n
          · refine hk_draw2 mixed fun K hK => runs2_eval tab_ok ?_
            simp only [evD, ev0, evA, evB, evP, fl, gp, tab, simprocAttr, reduceCtorEq, reduceIte, il_length, hst, hmi, decide_eq_true (show (((thl n q).length * (thl n p).length : Nat) : Int) = (n : Int) by omega), msk_thl, bv_and hq64 (bo_lt64 hb p), bo_and]
            refine fin2_stop ?_ (runs2_call (of_s (thl n p) (by omega) (thl_rng hb p)) rfl rfl rfl rfl (by simp only [dstOk, Nat.reduceLT]) (by repeat (first | exact trivial | constructor)) (runs2_eval tab_ok ?_))
            · (first | exact trivial | omega | (simp only [In64] at *; omega) | (simp [In64] at *; omega) | (simp_all; done) | skip)
            simp only [evD, ev0, evA, evB, evP, fl, gp, tab, simprocAttr, reduceCtorEq, reduceIte, il_length, hst, hmi, decide_eq_true (show (((thl n q).length * (thl n p).length : Nat) : Int) = (n : Int) by omega), msk_thl, bv_and hq64 (bo_lt64 hb p), bo_and]
            refine fin2_stop trivial (runs2_call (grow_c h 0 (Nat.pow_pos (by omega)) (onp e) onp_gen) rfl rfl rfl rfl (by simp only [dstOk, Nat.reduceLT]) (by repeat (first | exact trivial | constructor)) (runs2_eval tab_ok ?_))
            simp only [evD, ev0, evA, evB, evP, fl, gp, tab, simprocAttr, reduceCtorEq, reduceIte, il_length, hst, hmi, decide_eq_true (show (((thl n q).length * (thl n p).length : Nat) : Int) = (n : Int) by omega), msk_thl, bv_and hq64 (bo_lt64 hb p), bo_and]
            refine fin2_run ?_ (hK _ _ (by first | kernel_rfl | rfl) ?_) <;> clear hK <;> clear K
            · first | exact trivial | (simp only [In64]; omega)
            refine qa ?_
            refine hk_cond rfl (fun hC5 => ?_) (fun hC5 => ?_)
            · (try simp only [nhs] at hC5)
              have hct : cpb n p (SL.getD i 0) = true := by
                rw [hcb, decide_eq_true_eq]
                exact ⟨k1, (G.meet_one hq hp).2 (by omega)⟩
              refine hk_region fun K hK => runs_eval tab_ok ?_
              simp only [ev0, evA, evB, evP, fl, gp, tab, simprocAttr, reduceCtorEq, reduceIte, ll_takeL, oll_ok, ll_snoc]
              refine fin_run ?_ (hK _ ?_) <;> clear hK <;> clear K
              · first | (simp [cellOk, PV.one]; done) | (simp [cellOk, PV.one]; omega)
              refine qd (qa ?_)
              refine hk_region fun K hK => runs_eval tab_ok ?_
              simp only [ev0, evA, evB, evP, fl, gp, tab, simprocAttr, reduceCtorEq, reduceIte]
              refine fin_run ?_ (hK _ ?_) <;> clear hK <;> clear K
              · (first | exact trivial | omega | (simp only [In64] at *; omega) | (simp [In64] at *; omega) | (simp_all; done) | skip)
              refine qa ?_
              refine ⟨i + 1, [0, 1, 3], by omega, by omega, ?_⟩
              rw [cpl_t hlt hct, hxq, sll_put, hst]
              simp only [leq, leA, ev0, evA, evB, evP, fl, gp, tab, simprocAttr, reduceCtorEq, reduceIte, ll_takeL, ll_snoc, ll_takeS] <;> first | trivial | omega | (simp [ll]; done)
            · (try simp only [nhs] at hC5)
              have hcf : cpb n p (SL.getD i 0) = false := by
                rw [hcb, decide_eq_false_iff_not]
                exact fun hh => hC5 (by have := (G.meet_one hq hp).1 hh.2; omega)
              refine qh (qd (qa ?_))
              refine hk_region fun K hK => runs_eval tab_ok ?_
              simp only [ev0, evA, evB, evP, fl, gp, tab, simprocAttr, reduceCtorEq, reduceIte]
              refine fin_run ?_ (hK _ ?_) <;> clear hK <;> clear K
              · (first | exact trivial | omega | (simp only [In64] at *; omega) | (simp [In64] at *; omega) | (simp_all; done) | skip)
              refine qa ?_
              refine ⟨i + 1, [0, 1, 2], by omega, by omega, ?_⟩
              rw [cpl_f hlt hcf]
              simp only [leq, leA, ev0, evA, evB, evP, fl, gp, tab, simprocAttr, reduceCtorEq, reduceIte, ll_takeL] <;> first | trivial | omega
          · refine hk_draw2 mixed fun K hK => runs2_eval tab_ok ?_
            simp only [evD, ev0, evA, evB, evP, fl, gp, tab, simprocAttr, reduceCtorEq, reduceIte, il_length, hst, hmi, decide_eq_false (show ¬ (((thl n q).length * (thl n p).length : Nat) : Int) = (n : Int) by omega)]
            refine fin2_run ?_ (hK _ _ (by first | kernel_rfl | rfl) ?_) <;> clear hK <;> clear K
            · first | exact trivial | (simp only [In64]; omega)
            refine qa ?_
            refine hk_cond rfl (fun hC5 => ?_) (fun hC5 => ?_)
            · cases hC5
            · have hcf : cpb n p (SL.getD i 0) = false := by rw [hcb, decide_eq_false_iff_not]; exact fun hh => k1 hh.1
              refine qh (qd (qa ?_))
              refine hk_region fun K hK => runs_eval tab_ok ?_
              simp only [ev0, evA, evB, evP, fl, gp, tab, simprocAttr, reduceCtorEq, reduceIte]
              refine fin_run ?_ (hK _ ?_) <;> clear hK <;> clear K
              · (first | exact trivial | omega | (simp only [In64] at *; omega) | (simp [In64] at *; omega) | (simp_all; done) | skip)
              refine qa ?_
              refine ⟨i + 1, [0, 1, 2], by omega, by omega, ?_⟩
              rw [cpl_f hlt hcf]
              simp only [leq, leA, ev0, evA, evB, evP, fl, gp, tab, simprocAttr, reduceCtorEq, reduceIte, ll_takeL] <;> first | trivial | omega
        · (try simp only [nhs] at hC4)
          have hin : i = SL.length := by omega
          rw [hin, cpl_all]
          refine qj (qc (qc (qf (qa (qm ?_)))))
          rw [← ll_length (sll (SL.filter (cpb n p)))]
          refine hk_sealp 8 2 (ll_all _) rfl rfl ?_
          refine hk_region fun K hK => runs_eval tab_ok ?_
          simp only [ev0, evA, evB, evP, fl, gp, tab, simprocAttr, reduceCtorEq, reduceIte]
          refine fin_run ?_ (hK _ ?_) <;> clear hK <;> clear K
          · (first | exact trivial | omega | (simp only [In64] at *; omega) | (simp [In64] at *; omega) | (simp_all; done) | skip)
          refine qa (qk ?_)
          simp only [Tryd.results32, enA, ev0, evA, evB, evP, fl, gp, tab, simprocAttr, reduceCtorEq, reduceIte]
          all_goals ((first | exact rfl | exact ⟨rfl, rfl⟩ | exact ⟨rfl, rfl, rfl⟩ | exact ⟨trivial, rfl⟩ | exact ⟨Nat.le_refl _, rfl⟩ | trivial | (simp; done)))
theorem compl_w (N : Int) (m l : List Int) (w : Int × Int) (hG : FnC Tryd.prog 95 [gp N m, .list (il l)] (fl w)) (hw : ¬ w.1 = 0) : FnC Tryd.prog 32 [gp N m, .list (il l)] (.tup [.list (ll []), fl w]) := by
  refine fnc_of tab_ok Tryd.func32 rfl (by kernel_rfl) (by rw [Tryd.ntmps32]; exact Nat.le_add_left 2 _) ?_; rw [Tryd.ntmps32]
  refine qm ?_
  refine hk_region fun K hK => runs_eval tab_ok ?_
  simp only [ev0, evA, evB, evP, fl, gp, tab, simprocAttr, reduceCtorEq, reduceIte]
  refine fin_run ?_ (hK _ ?_) <;> clear hK <;> clear K
  · (first | exact trivial | omega | (simp only [In64] at *; omega) | (simp [In64] at *; omega) | (simp_all; done) | skip)
  refine qa (qm ?_)
  refine hk_region fun K hK => runs_eval tab_ok ?_
  simp only [ev0, evA, evB, evP, fl, gp, tab, simprocAttr, reduceCtorEq, reduceIte]
  refine fin_stop trivial (runs_call (normal_w N m l w hG hw) rfl rfl rfl (by simp only [dstOk, Nat.reduceLT]) (by repeat (first | exact trivial | constructor)) (runs_eval tab_ok ?_))
  simp only [ev0, evA, evB, evP, fl, gp, tab, simprocAttr, reduceCtorEq, reduceIte]
  refine fin_run ?_ (hK _ ?_) <;> clear hK <;> clear K
  · (first | exact trivial | omega | (simp only [In64] at *; omega) | (simp [In64] at *; omega) | (simp_all; done) | skip)
  refine qa (qm (qm ?_))
  refine hk_region fun K hK => runs_eval tab_ok ?_
  simp only [ev0, evA, evB, evP, fl, gp, tab, simprocAttr, reduceCtorEq, reduceIte]
  refine fin_run ?_ (hK _ ?_) <;> clear hK <;> clear K
  · (first | exact trivial | omega | (simp only [In64] at *; omega) | (simp [In64] at *; omega) | (simp_all; done) | skip)
  refine qa ?_
  refine hk_cond rfl (fun hC1 => ?_) (fun hC1 => ?_)
  · (try simp only [nhs] at hC1)
    refine qm ?_
    refine hk_draw mixed (by kernel_rfl) fun K hK => runs_eval tab_ok ?_
    simp only [ev0, evA, evB, evP, fl, gp, tab, simprocAttr, reduceCtorEq, reduceIte]
    refine fin_run ?_ (hK _ ?_) <;> clear hK <;> clear K
    · (first | exact trivial | omega | (simp only [In64] at *; omega) | (simp [In64] at *; omega) | (simp_all; done) | skip)
    refine qa (qk (qb ?_))
    simp only [Tryd.results32, enA, ev0, evA, evB, evP, fl, gp, tab, simprocAttr, reduceCtorEq, reduceIte]
    all_goals (simp [ll])
  · (try simp only [nhs] at hC1)
    exact absurd hC1 hw
theorem compl_non (h : GT n m n e) {p : Nat → Bool} (hp : Sub n (op m n) e p) (hN : ¬ Nml n (op m n) e p) : FnC Tryd.prog 32 [gp n m, .list (il (thl n p))] (.tup [.list (ll []), fl (4, 0)]) := by
  refine fnc_of tab_ok Tryd.func32 rfl (by kernel_rfl) (by rw [Tryd.ntmps32]; exact Nat.le_add_left 2 _) ?_; rw [Tryd.ntmps32]
  refine qm ?_
  refine hk_region fun K hK => runs_eval tab_ok ?_
  simp only [ev0, evA, evB, evP, fl, gp, tab, simprocAttr, reduceCtorEq, reduceIte]
  refine fin_run ?_ (hK _ ?_) <;> clear hK <;> clear K
  · (first | exact trivial | omega | (simp only [In64] at *; omega) | (simp [In64] at *; omega) | (simp_all; done) | skip)
  refine qa (qm ?_)
  refine hk_region fun K hK => runs_eval tab_ok ?_
  simp only [ev0, evA, evB, evP, fl, gp, tab, simprocAttr, reduceCtorEq, reduceIte]
  refine fin_stop trivial (runs_call (normal_ok h p hp false (by simp [hN])) rfl rfl rfl (by simp only [dstOk, Nat.reduceLT]) (by repeat (first | exact trivial | constructor)) (runs_eval tab_ok ?_))
  simp only [ev0, evA, evB, evP, fl, gp, tab, simprocAttr, reduceCtorEq, reduceIte]
  refine fin_run ?_ (hK _ ?_) <;> clear hK <;> clear K
  · (first | exact trivial | omega | (simp only [In64] at *; omega) | (simp [In64] at *; omega) | (simp_all; done) | skip)
  refine qa (qm (qm ?_))
  refine hk_region fun K hK => runs_eval tab_ok ?_
  simp only [ev0, evA, evB, evP, fl, gp, tab, simprocAttr, reduceCtorEq, reduceIte]
  refine fin_run ?_ (hK _ ?_) <;> clear hK <;> clear K
  · (first | exact trivial | omega | (simp only [In64] at *; omega) | (simp [In64] at *; omega) | (simp_all; done) | skip)
  refine qa ?_
  refine hk_cond rfl (fun hC1 => ?_) (fun hC1 => ?_)
  · cases hC1
  · (try simp only [nhs] at hC1)
    refine qh (qa (qm (qm ?_)))
    refine hk_region fun K hK => runs_eval tab_ok ?_
    simp only [ev0, evA, evB, evP, fl, gp, tab, simprocAttr, reduceCtorEq, reduceIte]
    refine fin_run trivial (hK _ ?_) <;> clear hK <;> clear K
    refine qa ?_
    refine hk_cond rfl (fun hC2 => ?_) (fun hC2 => ?_)
    · (try simp only [nhs] at hC2)
      refine qm ?_
      refine hk_region fun K hK => runs_eval tab_ok ?_
      simp only [ev0, evA, evB, evP, fl, gp, tab, simprocAttr, reduceCtorEq, reduceIte]
      refine fin_stop trivial (runs_call (prodFlt_c 4 0) rfl rfl rfl (by simp only [dstOk, Nat.reduceLT]) (by repeat (first | exact trivial | constructor)) (runs_eval tab_ok ?_))
      simp only [ev0, evA, evB, evP, fl, gp, tab, simprocAttr, reduceCtorEq, reduceIte]
      refine fin_run ?_ (hK _ ?_) <;> clear hK <;> clear K
      · (first | exact trivial | omega | (simp only [In64] at *; omega) | (simp [In64] at *; omega) | (simp_all; done) | skip)
      refine qa (qk (qb ?_))
      simp only [Tryd.results32, enA, ev0, evA, evB, evP, fl, gp, tab, simprocAttr, reduceCtorEq, reduceIte]
      all_goals (simp [ll])
    · cases hC2
theorem compl_big (h : GT n m n e) (hn : ¬ n ≤ 24) {p : Nat → Bool} (hp : Sub n (op m n) e p) (hN : Nml n (op m n) e p) : FnC Tryd.prog 32 [gp n m, .list (il (thl n p))] (.tup [.list (ll []), fl (2, 0)]) := by
  refine fnc_of tab_ok Tryd.func32 rfl (by kernel_rfl) (by rw [Tryd.ntmps32]; exact Nat.le_add_left 2 _) ?_; rw [Tryd.ntmps32]
  refine qm ?_
  refine hk_region fun K hK => runs_eval tab_ok ?_
  simp only [ev0, evA, evB, evP, fl, gp, tab, simprocAttr, reduceCtorEq, reduceIte]
  refine fin_run ?_ (hK _ ?_) <;> clear hK <;> clear K
  · (first | exact trivial | omega | (simp only [In64] at *; omega) | (simp [In64] at *; omega) | (simp_all; done) | skip)
  refine qa (qm ?_)
  refine hk_region fun K hK => runs_eval tab_ok ?_
  simp only [ev0, evA, evB, evP, fl, gp, tab, simprocAttr, reduceCtorEq, reduceIte]
  refine fin_stop trivial (runs_call (normal_ok h p hp true (by simp [hN])) rfl rfl rfl (by simp only [dstOk, Nat.reduceLT]) (by repeat (first | exact trivial | constructor)) (runs_eval tab_ok ?_))
  simp only [ev0, evA, evB, evP, fl, gp, tab, simprocAttr, reduceCtorEq, reduceIte]
  refine fin_run ?_ (hK _ ?_) <;> clear hK <;> clear K
  · (first | exact trivial | omega | (simp only [In64] at *; omega) | (simp [In64] at *; omega) | (simp_all; done) | skip)
  refine qa (qm (qm ?_))
  refine hk_region fun K hK => runs_eval tab_ok ?_
  simp only [ev0, evA, evB, evP, fl, gp, tab, simprocAttr, reduceCtorEq, reduceIte]
  refine fin_run ?_ (hK _ ?_) <;> clear hK <;> clear K
  · (first | exact trivial | omega | (simp only [In64] at *; omega) | (simp [In64] at *; omega) | (simp_all; done) | skip)
  refine qa ?_
  refine hk_cond rfl (fun hC1 => ?_) (fun hC1 => ?_)
  · cases hC1
  · (try simp only [nhs] at hC1)
    refine qh (qa (qm (qm ?_)))
    refine hk_region fun K hK => runs_eval tab_ok ?_
    simp only [ev0, evA, evB, evP, fl, gp, tab, simprocAttr, reduceCtorEq, reduceIte]
    refine fin_run trivial (hK _ ?_) <;> clear hK <;> clear K
    refine qa ?_
    refine hk_cond rfl (fun hC2 => ?_) (fun hC2 => ?_)
    · cases hC2
    · (try simp only [nhs] at hC2)
      refine qh (qa (qm (qm ?_)))
      refine hk_region fun K hK => runs_eval tab_ok ?_
      simp only [ev0, evA, evB, evP, fl, gp, tab, simprocAttr, reduceCtorEq, reduceIte]
      refine fin_run ?_ (hK _ ?_) <;> clear hK <;> clear K
      · (first | exact trivial | omega | (simp only [In64] at *; omega) | (simp [In64] at *; omega) | (simp_all; done) | skip)
      refine qa ?_
      refine hk_cond rfl (fun hC3 => ?_) (fun hC3 => ?_)
      · (try simp only [nhs] at hC3)
        refine qm ?_
        refine hk_region fun K hK => runs_eval tab_ok ?_
        simp only [ev0, evA, evB, evP, fl, gp, tab, simprocAttr, reduceCtorEq, reduceIte]
        refine fin_stop trivial (runs_call (prodFlt_c 2 0) rfl rfl rfl (by simp only [dstOk, Nat.reduceLT]) (by repeat (first | exact trivial | constructor)) (runs_eval tab_ok ?_))
        simp only [ev0, evA, evB, evP, fl, gp, tab, simprocAttr, reduceCtorEq, reduceIte]
        refine fin_run ?_ (hK _ ?_) <;> clear hK <;> clear K
        · (first | exact trivial | omega | (simp only [In64] at *; omega) | (simp [In64] at *; omega) | (simp_all; done) | skip)
        refine qa (qk (qb ?_))
        simp only [Tryd.results32, enA, ev0, evA, evB, evP, fl, gp, tab, simprocAttr, reduceCtorEq, reduceIte]
        all_goals (simp [ll])
      · (try simp only [nhs] at hC3)
        omega
theorem cownG_c (w : List Int) (hl : w.length ≤ 1000000000) : FnG Tryd.prog 26 [.list (il w)] (.sl 0 0 w.length) [.own (opl (il w))] := by
  refine fng_of tab_ok Tryd.func26 rfl (by kernel_rfl) (by rw [Tryd.ntmps26]; exact Nat.le_add_left 1 _) ?_; rw [Tryd.ntmps26]
  refine qm ?_
  refine hk_region fun K hK => runs_eval tab_ok ?_
  simp only [ev0, evA, evB, evP, fl, gp, tab, simprocAttr, reduceCtorEq, reduceIte]
  refine fin_run trivial (hK _ ?_) <;> clear hK <;> clear K
  refine qa (qm ?_)
  refine hk_region fun K hK => runs_eval tab_ok ?_
  simp only [ev0, evA, evB, evP, fl, gp, tab, simprocAttr, reduceCtorEq, reduceIte]
  refine fin_run ?_ (hK _ ?_) <;> clear hK <;> clear K
  · (first | exact trivial | omega | (simp only [In64] at *; omega) | (simp [In64] at *; omega) | (simp_all; done) | skip)
  refine qa (qk ?_)
  simp only [Tryd.results26, PostG, endG, rvsA, rvA, mkTup, ev0, evA, evB, evP, fl, gp, tab, simprocAttr, reduceCtorEq, reduceIte]
  all_goals (exact ⟨[0], rfl, rfl, by simp only [leq, leA, ev0, evA, evB, evP, fl, gp, tab, simprocAttr, reduceCtorEq, reduceIte] <;> first | trivial | omega⟩)
theorem coil_ok (w : List Int) : (opl (il w)).all cellOk = true := opl_ok (il_all w)
set_option maxRecDepth 20000 in
theorem compl1_c (h : GT n m n e) (hn : n ≤ 24) {SL : List Nat} (hS : AllS n (op m n) e SL) {p : Nat → Bool} (hp : Sub n (op m n) e p) (hN : Nml n (op m n) e p) : FnC Tryd.prog 36 [.ptr [.int .i64 n, .list (il m)], .ptr [.list (il (thl n p))]] (.list (ll (sll (SL.filter (cpb n p))))) := by
  have G := h.2.2
  have hb := h.2.1.big
  have hSl := hS.len hn
  have lp := thl_le n p
  have hsl := sll_len SL
  refine fnc_of tab_ok Tryd.func36 rfl (by kernel_rfl) (by rw [Tryd.ntmps36]; exact Nat.le_add_left 2 _) ?_; rw [Tryd.ntmps36]
  refine qm ?_
  refine hk_region fun K hK => runs_eval tab_ok ?_
  simp only [ev0, evA, evB, evP, fl, gp, tab, simprocAttr, reduceCtorEq, reduceIte]
  refine fin_run trivial (hK _ ?_) <;> clear hK <;> clear K
  refine qa (qm ?_)
  refine hk_region fun K hK => runs_eval tab_ok ?_
  simp only [ev0, evA, evB, evP, fl, gp, tab, simprocAttr, reduceCtorEq, reduceIte]
  refine fin_run trivial (hK _ ?_) <;> clear hK <;> clear K
  refine qa (qm ?_)
  refine hk_own0 3 rfl ?_
  refine hk_region fun K hK => runs_eval tab_ok ?_
  simp only [ev0, evA, evB, evP, fl, gp, tab, simprocAttr, reduceCtorEq, reduceIte]
  refine fin_stop trivial (runs_call (subgroups_t h hn hS) rfl rfl rfl (by simp only [dstOk, Nat.reduceLT]) (by repeat (first | exact trivial | constructor)) (runs_eval tab_ok ?_))
  simp only [ev0, evA, evB, evP, fl, gp, tab, simprocAttr, reduceCtorEq, reduceIte]
  refine fin_run ?_ (hK _ ?_) <;> clear hK <;> clear K
  · (first | exact trivial | omega | (simp only [In64] at *; omega) | (simp [In64] at *; omega) | (simp_all; done) | skip)
  refine qa (qm (qm ?_))
  refine hk_region fun K hK => runs_eval tab_ok ?_
  simp only [ev0, evA, evB, evP, fl, gp, tab, simprocAttr, reduceCtorEq, reduceIte]
  refine fin_run trivial (hK _ ?_) <;> clear hK <;> clear K
  refine qa (ql ?_)
  refine hk_loop (ι := Nat) (fun i => ⟨45, [(0, .p (.ptr [.int .i64 n, .list (il m)])), (1, .p (.ptr [.list (il (thl n p))])), (3, .sl 0 0 (sll (cpl n p SL i)).length), (4, .p (.list (ll (sll SL)))), (5, .p (.int .i64 i))], [.own (opl (ll (sll (cpl n p SL i))))]⟩) (fun i => i ≤ SL.length) (fun i => SL.length - i) 0 (Nat.zero_le _) [0] (by simp only [leq, leA, ev0, evA, evB, evP, fl, gp, tab, simprocAttr, reduceCtorEq, reduceIte, ll_takeL] <;> first | trivial | exact ⟨rfl, rfl⟩ | simp [sll, cpl]) fun i hi => ?_
  refine qm (qm ?_)
  refine hk_region fun K hK => runs_eval tab_ok ?_
  simp only [ev0, evA, evB, evP, fl, gp, tab, simprocAttr, reduceCtorEq, reduceIte, ll_length, hsl]
  refine fin_run trivial (hK _ ?_) <;> clear hK <;> clear K
  refine qa ?_
  refine hk_cond rfl (fun hC1 => ?_) (fun hC1 => ?_)
  · (try simp only [nhs] at hC1)
    have hlt : i < SL.length := by omega
    obtain ⟨q, hq, hxq⟩ := hS.subs _ (getD_memN hlt)
    have hst := stl_bo hb q
    have hgi := ll_get (ls := sll SL) (i := i) (by omega)
    rw [sll_get hlt, hxq, hst] at hgi
    have lq := thl_le n q
    have lm := thl_le n fun y => q y && p y
    have em : (thl n fun y => q y && p y).length = (mem n fun y => q y && p y).length := thl_len _ _
    have lg := thl_le n (gn n (op m n) e (oru2 q p))
    have eg : (thl n (gn n (op m n) e (oru2 q p))).length = (mem n (gn n (op m n) e (oru2 q p))).length := thl_len _ _
    have hl1 := sll_len (cpl n p SL i)
    have hl2 := cpl_len (n := n) (p := p) (SL := SL) (i := i)
    have hll := ll_length (sll (cpl n p SL i))
    have hll2 : (thl n q ++ thl n p).length = (thl n q).length + (thl n p).length := List.length_append
    have hrng := jn_rng (n := n) q p
    have hcb := G.cpb_doc hp hN hq
    rw [← em, ← eg, ← hxq] at hcb
    refine qh (qa (qm (ql (qm ?_))))
    by_cases k1 : (thl n fun y => q y && p y).length = 1
    · refine hk_draw2 mixed fun K hK => runs2_eval tab_ok ?_
      simp only [evD, ev0, evA, evB, evP, fl, gp, tab, simprocAttr, reduceCtorEq, reduceIte, hgi, ll_length, hsl, il_length, bth_thl, ol_opl, coil_ok, decide_eq_true (show ((thl n fun y => q y && p y).length : Int) = 1 by omega)]
      refine fin2_stop ?_ (runs2_call (both_c (thl n q) (thl n p) (by omega) (by omega)) rfl rfl rfl rfl (by simp only [dstOk, Nat.reduceLT]) (by repeat (first | exact trivial | constructor)) (runs2_eval tab_ok ?_))
      · (first | exact trivial | omega | (simp only [In64] at *; omega) | (simp [In64] at *; omega) | (simp_all; done) | skip)
      simp only [evD, ev0, evA, evB, evP, fl, gp, tab, simprocAttr, reduceCtorEq, reduceIte, hgi, ll_length, hsl, il_length, bth_thl, ol_opl, coil_ok, decide_eq_true (show ((thl n fun y => q y && p y).length : Int) = 1 by omega)]
      refine fin2_stop ?_ (runs2_callG (cownG_c (thl n q) (by omega)) rfl rfl rfl (by simp only [dstOk, Nat.reduceLT]) (by repeat (first | exact trivial | constructor)) (runs2_eval tab_ok ?_))
      · (first | exact trivial | omega | (simp only [In64] at *; omega) | (simp [In64] at *; omega) | (simp_all; done) | skip)
      simp only [evD, ev0, evA, evB, evP, fl, gp, tab, simprocAttr, reduceCtorEq, reduceIte, hgi, ll_length, hsl, il_length, bth_thl, ol_opl, coil_ok, decide_eq_true (show ((thl n fun y => q y && p y).length : Int) = 1 by omega)]
      refine fin2_stop ?_ (runs2_callK 2 (span_c h (thl n q ++ thl n p) (by omega) hrng (gn n (op m n) e (oru2 q p)) (fun y hy => by rw [gn_iff _ y hy]; exact Gen.congr fun z hz => (tst_app q p hz).symm)) rfl rfl (by first | exact ol_allP _ | exact opl_allP _ | (simp only [List.drop_zero, il_append, il_take, take_app2, ol_opl, il_length]; exact opl_allP _)) (by simp only [callA, List.map_cons, List.map_nil, enA, ev0, evA, evB, evP, fl, gp, tab, simprocAttr, reduceCtorEq, reduceIte, List.drop_zero, il_append, il_take, take_app2, ol_opl, il_length, il_all, List.take_replicate, Nat.min_self]; rfl) rfl (by simp only [dstOk, Nat.reduceLT]) (by repeat (first | exact trivial | (simp [il_length, List.length_append]; done) | constructor)) (runs2_eval tab_ok ?_))
      · (first | exact trivial | omega | (simp only [In64] at *; omega) | (simp [In64] at *; omega) | (simp_all; done) | skip)
      simp only [evD, ev0, evA, evB, evP, fl, gp, tab, simprocAttr, reduceCtorEq, reduceIte, hgi, ll_length, hsl, il_length, bth_thl, ol_opl, coil_ok, decide_eq_true (show ((thl n fun y => q y && p y).length : Int) = 1 by omega)]
      refine fin2_run ?_ (hK _ _ (by first | kernel_rfl | rfl) ?_) <;> clear hK <;> clear K
      · (first | exact trivial | omega | (simp only [In64] at *; omega) | (simp [In64] at *; omega) | (simp_all; done) | skip)
      refine qa ?_
      refine hk_cond rfl (fun hC2 => ?_) (fun hC2 => ?_)
      · (try simp only [nhs] at hC2)
        have hct : cpb n p (SL.getD i 0) = true := by
          rw [hcb, Bool.and_eq_true, decide_eq_true_eq, decide_eq_true_eq]
          exact ⟨k1, by omega⟩
        refine hk_region fun K hK => runs_eval tab_ok ?_
        simp only [ev0, evA, evB, evP, fl, gp, tab, simprocAttr, reduceCtorEq, reduceIte, hgi, ll_length, hsl, ll_takeL, oll_ok, ll_snoc]
        refine fin_run ?_ (hK _ ?_) <;> clear hK <;> clear K
        · (first | exact trivial | omega | (simp only [In64] at *; omega) | (simp [In64] at *; omega) | (simp_all; done) | skip)
        refine qd (qa ?_)
        refine hk_region fun K hK => runs_eval tab_ok ?_
        simp only [ev0, evA, evB, evP, fl, gp, tab, simprocAttr, reduceCtorEq, reduceIte]
        refine fin_run ?_ (hK _ ?_) <;> clear hK <;> clear K
        · (first | exact trivial | omega | (simp only [In64] at *; omega) | (simp [In64] at *; omega) | (simp_all; done) | skip)
        refine qa ?_
        refine ⟨i + 1, [3], by omega, by omega, ?_⟩
        rw [cpl_t hlt hct, hxq, sll_put, hst]
        simp only [leq, leA, ev0, evA, evB, evP, fl, gp, tab, simprocAttr, reduceCtorEq, reduceIte, ll_takeL, ll_snoc, ll_takeS] <;> first | trivial | omega | (simp [ll]; done)
      · (try simp only [nhs] at hC2)
        have hcf : cpb n p (SL.getD i 0) = false := by
          rw [hcb, Bool.and_eq_false_iff, decide_eq_false_iff_not, decide_eq_false_iff_not]
          exact Or.inr fun hh => hC2 (by omega)
        refine qh (qd (qa ?_))
        refine hk_region fun K hK => runs_eval tab_ok ?_
        simp only [ev0, evA, evB, evP, fl, gp, tab, simprocAttr, reduceCtorEq, reduceIte]
        refine fin_run ?_ (hK _ ?_) <;> clear hK <;> clear K
        · (first | exact trivial | omega | (simp only [In64] at *; omega) | (simp [In64] at *; omega) | (simp_all; done) | skip)
        refine qa ?_
        refine ⟨i + 1, [0], by omega, by omega, ?_⟩
        rw [cpl_f hlt hcf]
        simp only [leq, leA, ev0, evA, evB, evP, fl, gp, tab, simprocAttr, reduceCtorEq, reduceIte, ll_takeL] <;> first | trivial | omega
    · refine hk_draw2 mixed fun K hK => runs2_eval tab_ok ?_
      simp only [evD, ev0, evA, evB, evP, fl, gp, tab, simprocAttr, reduceCtorEq, reduceIte, hgi, ll_length, hsl, il_length, bth_thl, decide_eq_false (show ¬ ((thl n fun y => q y && p y).length : Int) = 1 by omega)]
      refine fin2_stop ?_ (runs2_call (both_c (thl n q) (thl n p) (by omega) (by omega)) rfl rfl rfl rfl (by simp only [dstOk, Nat.reduceLT]) (by repeat (first | exact trivial | constructor)) (runs2_eval tab_ok ?_))
      · (first | exact trivial | omega | (simp only [In64] at *; omega) | (simp [In64] at *; omega) | (simp_all; done) | skip)
      simp only [evD, ev0, evA, evB, evP, fl, gp, tab, simprocAttr, reduceCtorEq, reduceIte, hgi, ll_length, hsl, il_length, bth_thl, decide_eq_false (show ¬ ((thl n fun y => q y && p y).length : Int) = 1 by omega)]
      refine fin2_run ?_ (hK _ _ (by first | kernel_rfl | rfl) ?_) <;> clear hK <;> clear K
      · (first | exact trivial | omega | (simp only [In64] at *; omega) | (simp [In64] at *; omega) | (simp_all; done) | skip)
      refine qa ?_
      refine hk_cond rfl (fun hC2 => ?_) (fun hC2 => ?_)
      · cases hC2
      · have hcf : cpb n p (SL.getD i 0) = false := by
          rw [hcb, Bool.and_eq_false_iff, decide_eq_false_iff_not, decide_eq_false_iff_not]
          exact Or.inl k1
        refine qh (qd (qa ?_))
        refine hk_region fun K hK => runs_eval tab_ok ?_
        simp only [ev0, evA, evB, evP, fl, gp, tab, simprocAttr, reduceCtorEq, reduceIte]
        refine fin_run ?_ (hK _ ?_) <;> clear hK <;> clear K
        · (first | exact trivial | omega | (simp only [In64] at *; omega) | (simp [In64] at *; omega) | (simp_all; done) | skip)
        refine qa ?_
        refine ⟨i + 1, [0], by omega, by omega, ?_⟩
        rw [cpl_f hlt hcf]
        simp only [leq, leA, ev0, evA, evB, evP, fl, gp, tab, simprocAttr, reduceCtorEq, reduceIte, ll_takeL] <;> first | trivial | omega
  · (try simp only [nhs] at hC1)
    have hin : i = SL.length := by omega
    rw [hin, cpl_all]
    refine qj (qc (qc (qf (qa (qm ?_)))))
    rw [← ll_length (sll (SL.filter (cpb n p)))]
    refine hk_sealp 3 0 (ll_all _) rfl rfl ?_
    refine hk_region fun K hK => runs_eval tab_ok ?_
    simp only [ev0, evA, evB, evP, fl, gp, tab, simprocAttr, reduceCtorEq, reduceIte]
    refine fin_run trivial (hK _ ?_) <;> clear hK <;> clear K
    refine qa (qk ?_)
    simp only [Tryd.results36, enA, ev0, evA, evB, evP, fl, gp, tab, simprocAttr, reduceCtorEq, reduceIte]
    all_goals ((first | exact rfl | exact ⟨rfl, rfl⟩ | exact ⟨rfl, rfl, rfl⟩ | exact ⟨trivial, rfl⟩ | exact ⟨Nat.le_refl _, rfl⟩ | trivial | (simp; done)))
theorem lists_B (a b : List (List Int)) (ha : a.length ≤ 1000000000) (hx : ∀ x ∈ a, x.length ≤ 1000000) : FnC Tryd.prog 21 [.list (ll a), .list (ll b)] (.bool (decide (a = b))) := by
  refine fnc_of tab_ok Tryd.func21 rfl (by kernel_rfl) (by rw [Tryd.ntmps21]; exact Nat.le_add_left 2 _) ?_; rw [Tryd.ntmps21]
  refine qm ?_
  refine hk_region fun K hK => runs_eval tab_ok ?_
  simp only [ev0, evA, evB, evP, fl, gp, tab, simprocAttr, reduceCtorEq, reduceIte]
  refine fin_run trivial (hK _ ?_) <;> clear hK <;> clear K
  refine qa (qm (qm ?_))
  refine hk_region fun K hK => runs_eval tab_ok ?_
  simp only [ev0, evA, evB, evP, fl, gp, tab, simprocAttr, reduceCtorEq, reduceIte, ll_length]
  refine fin_run trivial (hK _ ?_) <;> clear hK <;> clear K
  refine qa ?_
  refine hk_cond rfl (fun hC1 => ?_) (fun hC1 => ?_)
  · (try simp only [nhs] at hC1)
    refine qm ?_
    refine hk_region fun K hK => runs_eval tab_ok ?_
    simp only [ev0, evA, evB, evP, fl, gp, tab, simprocAttr, reduceCtorEq, reduceIte]
    refine fin_run trivial (hK _ ?_) <;> clear hK <;> clear K
    refine qa (qk (qb ?_))
    simp only [Tryd.results21, enA, ev0, evA, evB, evP, fl, gp, tab, simprocAttr, reduceCtorEq, reduceIte]
    have : a ≠ b := by intro h; subst h; simp at hC1
    simp [this]
  · (try simp only [nhs] at hC1)
    have hn : a.length = b.length := by omega
    refine qh (qa (qm (qm ?_)))
    refine hk_region fun K hK => runs_eval tab_ok ?_
    simp only [ev0, evA, evB, evP, fl, gp, tab, simprocAttr, reduceCtorEq, reduceIte]
    refine fin_run trivial (hK _ ?_) <;> clear hK <;> clear K
    refine qa (ql ?_)
    refine hk_loop (ι := Nat) (fun i => ⟨27, [(0, .p (.list (ll a))), (1, .p (.list (ll b))), (5, .p (.int .i64 i))], []⟩) (fun i => i ≤ a.length ∧ a.take i = b.take i) (fun i => a.length - i) 0 ⟨Nat.zero_le _, rfl⟩ [] (by simp only [leq, leA, ev0, evA, evB, evP, fl, gp, tab, simprocAttr, reduceCtorEq, reduceIte] <;> trivial) fun i hi => ?_
    obtain ⟨hi1, hi2⟩ := hi
    refine qm (qm ?_)
    refine hk_region fun K hK => runs_eval tab_ok ?_
    simp only [ev0, evA, evB, evP, fl, gp, tab, simprocAttr, reduceCtorEq, reduceIte, ll_length]
    refine fin_run trivial (hK _ ?_) <;> clear hK <;> clear K
    refine qa ?_
    refine hk_cond rfl (fun hC2 => ?_) (fun hC2 => ?_)
    · (try simp only [nhs] at hC2)
      have hlt : i < a.length := by omega
      have hma : (a.getD i []).length ≤ 1000000 := hx _ (by simp [List.getD, List.getElem?_eq_getElem hlt])
      refine qh (qa (qm (ql (qm ?_))))
      refine hk_draw mixed (by kernel_rfl) fun K hK => runs_eval tab_ok ?_
      simp only [ev0, evA, evB, evP, fl, gp, tab, simprocAttr, reduceCtorEq, reduceIte, ll_length, ll_get hlt, ll_get (show i < b.length by omega)]
      refine fin_stop ?_ (runs_call (ints_c (a.getD i []) (b.getD i []) (by omega)) rfl rfl rfl (by simp only [dstOk, Nat.reduceLT]) (by repeat (first | exact trivial | constructor)) (runs_eval tab_ok ?_))
      · (first | exact trivial | omega | (simp only [In64] at *; omega) | (simp [In64] at *; omega) | (simp_all; done) | skip)
      simp only [ev0, evA, evB, evP, fl, gp, tab, simprocAttr, reduceCtorEq, reduceIte, ll_length, ll_get hlt, ll_get (show i < b.length by omega)]
      refine fin_run ?_ (hK _ ?_) <;> clear hK <;> clear K
      · (first | exact trivial | omega | (simp only [In64] at *; omega) | (simp [In64] at *; omega) | (simp_all; done) | skip)
      refine qa ?_
      refine hk_cond rfl (fun hC3 => ?_) (fun hC3 => ?_)
      · (try simp only [nhs] at hC3)
        refine qm ?_
        refine hk_region fun K hK => runs_eval tab_ok ?_
        simp only [ev0, evA, evB, evP, fl, gp, tab, simprocAttr, reduceCtorEq, reduceIte]
        refine fin_run trivial (hK _ ?_) <;> clear hK <;> clear K
        refine qa (qk (qe (qb (qb (qe (qb ?_))))))
        simp only [Tryd.results21, enA, ev0, evA, evB, evP, fl, gp, tab, simprocAttr, reduceCtorEq, reduceIte]
        have : a ≠ b := by intro h; subst h; simp at hC3
        simp [this]
      · (try simp only [nhs] at hC3)
        refine qh (qd (qa ?_))
        refine hk_region fun K hK => runs_eval tab_ok ?_
        simp only [ev0, evA, evB, evP, fl, gp, tab, simprocAttr, reduceCtorEq, reduceIte]
        refine fin_run ?_ (hK _ ?_) <;> clear hK <;> clear K
        · (first | exact trivial | omega | (simp only [In64] at *; omega) | (simp [In64] at *; omega) | (simp_all; done) | skip)
        refine qa ?_
        refine ⟨i + 1, [], ⟨by omega, ?_⟩, by omega, ?_⟩
        · rw [List.take_succ_eq_append_getElem hlt, List.take_succ_eq_append_getElem (show i < b.length by omega), hi2]
          simp [List.getD, List.getElem?_eq_getElem hlt, List.getElem?_eq_getElem (show i < b.length by omega)] at hC3
          rw [hC3]
        · simp only [leq, leA, ev0, evA, evB, evP, fl, gp, tab, simprocAttr, reduceCtorEq, reduceIte] <;> first | trivial | omega
    · (try simp only [nhs] at hC2)
      refine qj (qc (qc (qf (qa (qm ?_)))))
      refine hk_region fun K hK => runs_eval tab_ok ?_
      simp only [ev0, evA, evB, evP, fl, gp, tab, simprocAttr, reduceCtorEq, reduceIte]
      refine fin_run trivial (hK _ ?_) <;> clear hK <;> clear K
      refine qa (qk ?_)
      simp only [Tryd.results21, enA, ev0, evA, evB, evP, fl, gp, tab, simprocAttr, reduceCtorEq, reduceIte]
      have : i = a.length := by omega
      subst this
      rw [List.take_length, List.take_of_length_le (by omega)] at hi2
      simp [hi2]
theorem listsAs_B (l : List (List Int)) (w : Int × Int) (F : FuncId) (caps : List PV) (hl : l.length ≤ 1000000000) (hx : ∀ x ∈ l, x.length ≤ 1000000) (h0 : ¬ w.1 = 0 → l = []) (h1 : w.1 = 0 → FnC Tryd.prog F caps (.list (ll l))) : FnC Tryd.prog 35 [.list (ll l), fl w, fl w, .fn F caps] (.bool true) := by
  refine fnc_of tab_ok Tryd.func35 rfl (by kernel_rfl) (by rw [Tryd.ntmps35]; exact Nat.le_add_left 4 _) ?_; rw [Tryd.ntmps35]
  refine qm ?_
  refine hk_region fun K hK => runs_eval tab_ok ?_
  simp only [ev0, evA, evB, evP, fl, gp, tab, simprocAttr, reduceCtorEq, reduceIte]
  refine fin_run ?_ (hK _ ?_) <;> clear hK <;> clear K
  · (first | exact trivial | omega | (simp only [In64] at *; omega) | (simp [In64] at *; omega) | (simp_all; done) | skip)
  refine qa (qm (qm ?_))
  refine hk_region fun K hK => runs_eval tab_ok ?_
  simp only [ev0, evA, evB, evP, fl, gp, tab, simprocAttr, reduceCtorEq, reduceIte]
  refine fin_run ?_ (hK _ ?_) <;> clear hK <;> clear K
  · (first | exact trivial | omega | (simp only [In64] at *; omega) | (simp [In64] at *; omega) | (simp_all; done) | skip)
  refine qa ?_
  refine hk_cond rfl (fun hC1 => ?_) (fun hC1 => ?_)
  · cases hC1
  · (try simp only [nhs] at hC1)
    refine qh (qa (qm (qm ?_)))
    refine hk_region fun K hK => runs_eval tab_ok ?_
    simp only [ev0, evA, evB, evP, fl, gp, tab, simprocAttr, reduceCtorEq, reduceIte]
    refine fin_run ?_ (hK _ ?_) <;> clear hK <;> clear K
    · (first | exact trivial | omega | (simp only [In64] at *; omega) | (simp [In64] at *; omega) | (simp_all; done) | skip)
    refine qa ?_
    refine hk_cond rfl (fun hC2 => ?_) (fun hC2 => ?_)
    · (try simp only [nhs] at hC2)
      refine qm ?_
      refine hk_region fun K hK => runs_eval tab_ok ?_
      simp only [ev0, evA, evB, evP, fl, gp, tab, simprocAttr, reduceCtorEq, reduceIte, ll_length]
      refine fin_run trivial (hK _ ?_) <;> clear hK <;> clear K
      refine qa (qk (qb ?_))
      simp only [Tryd.results35, enA, ev0, evA, evB, evP, fl, gp, tab, simprocAttr, reduceCtorEq, reduceIte]
      all_goals (simp [h0 hC2])
    · (try simp only [nhs] at hC2)
      refine qh (qa (qm ?_))
      refine hk_region fun K hK => runs_eval tab_ok ?_
      simp only [ev0, evA, evB, evP, fl, gp, tab, simprocAttr, reduceCtorEq, reduceIte]
      refine fin_stop trivial (runs_call (h1 hC2) rfl rfl rfl (by simp only [dstOk, Nat.reduceLT]) (by repeat (first | exact trivial | constructor)) (runs_eval tab_ok ?_))
      simp only [ev0, evA, evB, evP, fl, gp, tab, simprocAttr, reduceCtorEq, reduceIte]
      refine fin_stop trivial (runs_call (lists_B l l hl hx) rfl rfl rfl (by simp only [dstOk, Nat.reduceLT]) (by repeat (first | exact trivial | constructor)) (runs_eval tab_ok ?_))
      simp only [ev0, evA, evB, evP, fl, gp, tab, simprocAttr, reduceCtorEq, reduceIte]
      refine fin_run trivial (hK _ ?_) <;> clear hK <;> clear K
      refine qa (qk ?_)
      simp only [Tryd.results35, enA, ev0, evA, evB, evP, fl, gp, tab, simprocAttr, reduceCtorEq, reduceIte]
      all_goals (simp)
end
end Go.Proofs.YtjikchbmkodgfaaDoor

/-
  Walks: prod.Semi where there is no fault. Conditions: none.
-/
set_option linter.all false
namespace Go.Proofs.YtjikchbmkodgfaaDoor
open Go.Pv

set_option maxRecDepth 20000 in
set_option maxHeartbeats 8000000 in
theorem semi_ok {n n' e e' : Nat} {m m' : List Int} {ls : List (List Int)} (h : GT n m n e) (h' : GT n' m' n' e') (hl : ls.length = n') (hr : ∀ j, j < n' → rwc n m (ls.getD j []) = 0) (hmg : ∀ j, j < n' → mgd m' n' ls j) (hle : n * n' ≤ 60) :
    FnC Tryd.prog 84 [gp n m, gp n' m', .list (ll ls)] (.tup [gp (n * n' : Nat) (sg n n' m m' ls), fl (0, 0)]) := by
  have T := h.2.1
  have T' := h'.2.1
  have G := h.2.2
  have G' := h'.2.2
  have hs1 := T.big
  have hs2 := T'.big
  have hm := T.len
  have hm' := T'.len
  have hq1 := sq_le hs1
  have hq2 := sq_le hs2
  have hK := sq_le hle
  have hmul : (n : Int) * (n' : Int) = ((n * n' : Nat) : Int) := (Int.natCast_mul _ _).symm
  have A := acts_of hl hr hmg T
  have hrow : ∀ y, y < n' → (ls.getD y []).length = n ∧ ∀ i, i < n → (ls.getD y []).getD i 0 = ((alp ls y i : Nat) : Int) := fun y hy =>
    ⟨(rwc_ok (hr y hy)).1.1, fun i hi => ((rwc_ok (hr y hy)).1.2.1 i hi).1⟩
  have hho : ∀ y, y < n' → homf n m n m (ls.getD y []) = (0, 0) := fun y hy => by
    have h1 := hr y hy
    unfold rwc at h1
    by_cases h2 : (homf n m n m (ls.getD y [])).1 = 0
    · obtain ⟨_, _, _, _, _, _, _, h3⟩ := homf_ok h2
      exact h3
    · rw [if_pos h2] at h1; exact absurd h1 h2
  have hlen := tbr_len (sgm n n' m m' ls) (n * n')
  refine fnc_of tab_ok Tryd.func84 rfl (by kernel_rfl) (by rw [Tryd.ntmps84]; exact Nat.le_add_left 3 _) ?_; rw [Tryd.ntmps84]
  refine qm ?_
  refine hk_region fun K hK => runs_eval tab_ok ?_
  simp only [ev0, evA, evB, evP, fl, gp, tab, simprocAttr, reduceCtorEq, reduceIte]
  refine fin_run ?_ (hK _ ?_) <;> clear hK <;> clear K
  · (first | exact trivial | omega | (simp only [In64] at *; omega) | (simp [In64] at *; omega) | (simp_all; done) | skip)
  refine qa (qm (qm ?_))
  refine hk_region fun K hK => runs_eval tab_ok ?_
  simp only [ev0, evA, evB, evP, fl, gp, tab, simprocAttr, reduceCtorEq, reduceIte]
  refine fin_run ?_ (hK _ ?_) <;> clear hK <;> clear K
  · (first | exact trivial | omega | (simp only [In64] at *; omega) | (simp [In64] at *; omega) | (simp_all; done) | skip)
  refine qa (ql ?_)
  refine hk_loop (ι := Nat) (fun i => ⟨200, [(2, .p (.list (ll ls))), (3, .ptr 0 0), (4, .ptr 1 0), (6, .ptr 2 0), (7, .ptr 3 0), (29, .p (.nn [gp n m, gp n' m'])), (30, .p (.int .i64 2)), (31, .p (.int .i64 i))], [.own [.p (.int .i64 n), .p (.list (il m))], .own [.p (.int .i64 n'), .p (.list (il m'))], .own [.p (.int .i64 0), .p .nil], .own [.p (.int .i64 0), .p (.int .i64 0)]]⟩) (fun i => i ≤ 2) (fun i => 2 - i) 0 (by omega) [0, 1, 2, 3] (by simp only [leq, leA, ev0, evA, evB, evP, fl, gp, tab, simprocAttr, reduceCtorEq, reduceIte] <;> trivial) fun i hi => ?_
  refine qm ?_
  refine hk_region fun K hK => runs_eval tab_ok ?_
  simp only [ev0, evA, evB, evP, fl, gp, tab, simprocAttr, reduceCtorEq, reduceIte]
  refine fin_run trivial (hK _ ?_) <;> clear hK <;> clear K
  refine qa (qm ?_)
  refine hk_cond rfl (fun hC1 => ?_) (fun hC1 => ?_)
  · (try simp only [nhs] at hC1)
    refine qh (qa (qm (ql (qm ?_))))
    rcases (show i = 0 ∨ i = 1 by omega) with rfl | rfl
    · refine hk_region fun K hK => runs_eval tab_ok ?_
      simp only [ev0, evA, evB, evP, fl, gp, tab, simprocAttr, reduceCtorEq, reduceIte, List.getD_cons_zero, List.getD_cons_succ]
      refine fin_run ?_ (hK _ ?_) <;> clear hK <;> clear K
      · (first | exact trivial | omega | (simp only [In64] at *; omega) | (simp [In64] at *; omega) | (simp_all; done) | skip)
      refine qa (qm ?_)
      refine hk_region fun K hK => runs_eval tab_ok ?_
      simp only [ev0, evA, evB, evP, fl, gp, tab, simprocAttr, reduceCtorEq, reduceIte]
      refine fin_stop trivial (runs_call (check_c n m (by omega)) rfl rfl rfl (by simp only [dstOk, Nat.reduceLT]) (by repeat (first | exact trivial | constructor)) (runs_eval tab_ok ?_))
      simp only [ev0, evA, evB, evP, fl, gp, tab, simprocAttr, reduceCtorEq, reduceIte, gf_of h]
      refine fin_run ?_ (hK _ ?_) <;> clear hK <;> clear K
      · (first | exact trivial | omega | (simp only [In64] at *; omega) | (simp [In64] at *; omega) | (simp_all; done) | skip)
      refine qa (qm ?_)
      refine hk_region fun K hK => runs_eval tab_ok ?_
      simp only [ev0, evA, evB, evP, fl, gp, tab, simprocAttr, reduceCtorEq, reduceIte]
      refine fin_run ?_ (hK _ ?_) <;> clear hK <;> clear K
      · (first | exact trivial | omega | (simp only [In64] at *; omega) | (simp [In64] at *; omega) | (simp_all; done) | skip)
      refine qa ?_
      refine hk_cond rfl (fun hC2 => ?_) (fun hC2 => ?_)
      · cases hC2
      · (try simp only [nhs] at hC2)
        refine qh (qd (qa ?_))
        refine hk_region fun K hK => runs_eval tab_ok ?_
        simp only [ev0, evA, evB, evP, fl, gp, tab, simprocAttr, reduceCtorEq, reduceIte]
        refine fin_run ?_ (hK _ ?_) <;> clear hK <;> clear K
        · (first | exact trivial | omega | (simp only [In64] at *; omega) | (simp [In64] at *; omega) | (simp_all; done) | skip)
        refine qa ?_
        refine ⟨1, [0, 1, 2, 3], by omega, by omega, ?_⟩
        simp only [leq, leA, ev0, evA, evB, evP, fl, gp, tab, simprocAttr, reduceCtorEq, reduceIte] <;> first | trivial | omega
    · refine hk_region fun K hK => runs_eval tab_ok ?_
      simp only [ev0, evA, evB, evP, fl, gp, tab, simprocAttr, reduceCtorEq, reduceIte, List.getD_cons_zero, List.getD_cons_succ]
      refine fin_run ?_ (hK _ ?_) <;> clear hK <;> clear K
      · (first | exact trivial | omega | (simp only [In64] at *; omega) | (simp [In64] at *; omega) | (simp_all; done) | skip)
      refine qa (qm ?_)
      refine hk_region fun K hK => runs_eval tab_ok ?_
      simp only [ev0, evA, evB, evP, fl, gp, tab, simprocAttr, reduceCtorEq, reduceIte]
      refine fin_stop trivial (runs_call (check_c n' m' (by omega)) rfl rfl rfl (by simp only [dstOk, Nat.reduceLT]) (by repeat (first | exact trivial | constructor)) (runs_eval tab_ok ?_))
      simp only [ev0, evA, evB, evP, fl, gp, tab, simprocAttr, reduceCtorEq, reduceIte, gf_of h']
      refine fin_run ?_ (hK _ ?_) <;> clear hK <;> clear K
      · (first | exact trivial | omega | (simp only [In64] at *; omega) | (simp [In64] at *; omega) | (simp_all; done) | skip)
      refine qa (qm ?_)
      refine hk_region fun K hK => runs_eval tab_ok ?_
      simp only [ev0, evA, evB, evP, fl, gp, tab, simprocAttr, reduceCtorEq, reduceIte]
      refine fin_run ?_ (hK _ ?_) <;> clear hK <;> clear K
      · (first | exact trivial | omega | (simp only [In64] at *; omega) | (simp [In64] at *; omega) | (simp_all; done) | skip)
      refine qa ?_
      refine hk_cond rfl (fun hC2 => ?_) (fun hC2 => ?_)
      · cases hC2
      · (try simp only [nhs] at hC2)
        refine qh (qd (qa ?_))
        refine hk_region fun K hK => runs_eval tab_ok ?_
        simp only [ev0, evA, evB, evP, fl, gp, tab, simprocAttr, reduceCtorEq, reduceIte]
        refine fin_run ?_ (hK _ ?_) <;> clear hK <;> clear K
        · (first | exact trivial | omega | (simp only [In64] at *; omega) | (simp [In64] at *; omega) | (simp_all; done) | skip)
        refine qa ?_
        refine ⟨2, [0, 1, 2, 3], by omega, by omega, ?_⟩
        simp only [leq, leA, ev0, evA, evB, evP, fl, gp, tab, simprocAttr, reduceCtorEq, reduceIte] <;> first | trivial | omega
  · (try simp only [nhs] at hC1)
    refine qj (qc (qc (qf (qa (qm (qm ?_))))))
    refine hk_region fun K hK => runs_eval tab_ok ?_
    simp only [ev0, evA, evB, evP, fl, gp, tab, simprocAttr, reduceCtorEq, reduceIte, ll_length, hl]
    refine fin_run ?_ (hK _ ?_) <;> clear hK <;> clear K
    · (first | exact trivial | omega | (simp only [In64] at *; omega) | (simp [In64] at *; omega) | (simp_all; done) | skip)
    refine qa ?_
    refine hk_cond rfl (fun hC3 => ?_) (fun hC3 => ?_)
    · cases hC3
    · (try simp only [nhs] at hC3)
      refine qh (qa (qm (qm ?_)))
      refine hk_region fun K hK => runs_eval tab_ok ?_
      simp only [ev0, evA, evB, evP, fl, gp, tab, simprocAttr, reduceCtorEq, reduceIte, ll_length, hl]
      refine fin_run trivial (hK _ ?_) <;> clear hK <;> clear K
      refine qa (ql ?_)
      refine hk_loop (ι := Nat) (fun i => ⟨200, [(2, .p (.list (ll ls))), (3, .ptr 0 0), (4, .ptr 1 0), (6, .ptr 2 0), (7, .ptr 3 0), (50, .p (.list (ll ls))), (51, .p (.int .i64 n')), (52, .p (.int .i64 i))], [.own [.p (.int .i64 n), .p (.list (il m))], .own [.p (.int .i64 n'), .p (.list (il m'))], .own [.p (.int .i64 0), .p .nil], .own [.p (.int .i64 0), .p (.int .i64 0)]]⟩) (fun i => i ≤ n') (fun i => n' - i) 0 (Nat.zero_le _) [0, 1, 2, 3] (by simp only [leq, leA, ev0, evA, evB, evP, fl, gp, tab, simprocAttr, reduceCtorEq, reduceIte] <;> trivial) fun i hi => ?_
      refine qm ?_
      refine hk_region fun K hK => runs_eval tab_ok ?_
      simp only [ev0, evA, evB, evP, fl, gp, tab, simprocAttr, reduceCtorEq, reduceIte]
      refine fin_run trivial (hK _ ?_) <;> clear hK <;> clear K
      refine qa (qm ?_)
      refine hk_cond rfl (fun hC4 => ?_) (fun hC4 => ?_)
      · (try simp only [nhs] at hC4)
        have hlt : i < n' := by omega
        obtain ⟨hln, hval⟩ := hrow i hlt
        have hh := hho i hlt
        obtain ⟨hH, hon⟩ := rwc_ok (hr i hlt)
        refine qh (qa (qm (ql (qm ?_))))
        refine hk_region fun K hK => runs_eval tab_ok ?_
        simp only [ev0, evA, evB, evP, fl, gp, tab, simprocAttr, reduceCtorEq, reduceIte, ll_length, ll_get (show i < ls.length by omega)]
        refine fin_run ?_ (hK _ ?_) <;> clear hK <;> clear K
        · (first | exact trivial | omega | (simp only [In64] at *; omega) | (simp [In64] at *; omega) | (simp_all; done) | skip)
        refine qa (qm (qm ?_))
        refine hk_region fun K hK => runs_eval tab_ok ?_
        simp only [ev0, evA, evB, evP, fl, gp, tab, simprocAttr, reduceCtorEq, reduceIte]
        refine fin_stop trivial (runs_call (homCheck_c n m n m (ls.getD i []) (by omega) (by omega)) rfl rfl rfl (by simp only [dstOk, Nat.reduceLT]) (by repeat (first | exact trivial | constructor)) (runs_eval tab_ok ?_))
        simp only [ev0, evA, evB, evP, fl, gp, tab, simprocAttr, reduceCtorEq, reduceIte, hh]
        refine fin_run ?_ (hK _ ?_) <;> clear hK <;> clear K
        · (first | exact trivial | omega | (simp only [In64] at *; omega) | (simp [In64] at *; omega) | (simp_all; done) | skip)
        refine qa (qm ?_)
        refine hk_region fun K hK => runs_eval tab_ok ?_
        simp only [ev0, evA, evB, evP, fl, gp, tab, simprocAttr, reduceCtorEq, reduceIte]
        refine fin_run ?_ (hK _ ?_) <;> clear hK <;> clear K
        · (first | exact trivial | omega | (simp only [In64] at *; omega) | (simp [In64] at *; omega) | (simp_all; done) | skip)
        refine qa ?_
        refine hk_cond rfl (fun hC5 => ?_) (fun hC5 => ?_)
        · cases hC5
        · (try simp only [nhs] at hC5)
          refine qh (qa (qm ?_))
          refine hk_region fun K hK => runs_eval tab_ok ?_
          simp only [ev0, evA, evB, evP, fl, gp, tab, simprocAttr, reduceCtorEq, reduceIte, makeSliceA.eq_def, hbl_new]
          refine fin_run ?_ (hK _ ?_) <;> clear hK <;> clear K
          · omega
          refine qa (qm (qm ?_))
          refine hk_region fun K hK => runs_eval tab_ok ?_
          simp only [ev0, evA, evB, evP, fl, gp, tab, simprocAttr, reduceCtorEq, reduceIte, il_length, hln]
          refine fin_run trivial (hK _ ?_) <;> clear hK <;> clear K
          refine qa (ql ?_)
          refine hk_loop (ι := Nat) (fun k => ⟨200, [(2, .p (.list (ll ls))), (3, .ptr 0 0), (4, .ptr 1 0), (6, .ptr 2 0), (7, .ptr 3 0), (11, .p (.int .i64 i)), (14, .sl 4 0 n), (50, .p (.list (ll ls))), (51, .p (.int .i64 n')), (52, .p (.int .i64 i)), (72, .p (.list (il (ls.getD i [])))), (73, .p (.int .i64 n)), (74, .p (.int .i64 k))], [.own [.p (.int .i64 n), .p (.list (il m))], .own [.p (.int .i64 n'), .p (.list (il m'))], .own [.p (.int .i64 0), .p .nil], .own [.p (.int .i64 0), .p (.int .i64 0)], .own (opl (hbl n (hits (ls.getD i []) k)))]⟩) (fun k => k ≤ n) (fun k => n - k) 0 (Nat.zero_le _) [0, 1, 2, 3, 5] (by simp only [show hits (ls.getD i []) 0 = fun _ => false from funext (hits_zero _)]; simp only [leq, leA, ev0, evA, evB, evP, fl, gp, tab, simprocAttr, reduceCtorEq, reduceIte] <;> trivial) fun k hk => ?_
          refine qm ?_
          refine hk_region fun K hK => runs_eval tab_ok ?_
          simp only [ev0, evA, evB, evP, fl, gp, tab, simprocAttr, reduceCtorEq, reduceIte]
          refine fin_run trivial (hK _ ?_) <;> clear hK <;> clear K
          refine qa (qm ?_)
          refine hk_cond rfl (fun hC6 => ?_) (fun hC6 => ?_)
          · (try simp only [nhs] at hC6)
            have hkl : k < n := by omega
            have ev := hval k hkl
            have lv := A.lt i k hlt hkl
            refine qh (qa (qm (ql (qm ?_))))
            refine hk_region fun K hK => runs_eval tab_ok ?_
            simp only [ev0, evA, evB, evP, fl, gp, tab, simprocAttr, reduceCtorEq, reduceIte, il_get (show k < (ls.getD i []).length by omega), ev]
            refine fin_run ?_ (hK _ ?_) <;> clear hK <;> clear K
            · (first | exact trivial | omega | (simp only [In64] at *; omega) | (simp [In64] at *; omega) | (simp_all; done) | skip)
            refine qa ?_
            refine hk_region fun K hK => runs_eval tab_ok ?_
            simp only [ev0, evA, evB, evP, fl, gp, tab, simprocAttr, reduceCtorEq, reduceIte]
            refine fin_run ?_ (hK _ ?_) <;> clear hK <;> clear K
            · rw [hbl_len]; omega
            refine qd (qa ?_)
            rw [hbl_set]
            refine hk_region fun K hK => runs_eval tab_ok ?_
            simp only [ev0, evA, evB, evP, fl, gp, tab, simprocAttr, reduceCtorEq, reduceIte]
            refine fin_run ?_ (hK _ ?_) <;> clear hK <;> clear K
            · (first | exact trivial | omega | (simp only [In64] at *; omega) | (simp [In64] at *; omega) | (simp_all; done) | skip)
            refine qa ?_
            refine ⟨k + 1, [0, 1, 2, 3, 4], by omega, by omega, ?_⟩
            rw [hbl_congr (fun i' _ => hits_succ (l := ls.getD i []) (by omega) ev i')]
            simp only [leq, leA, ev0, evA, evB, evP, fl, gp, tab, simprocAttr, reduceCtorEq, reduceIte] <;> first | trivial | omega
          · (try simp only [nhs] at hC6)
            have hkn : k = n := by omega
            subst hkn
            have hno : decide (ixb k (hits (ls.getD i []) k) ≥ 0) = false := decide_eq_false fun hc => by
              obtain ⟨v, v1, v2⟩ := (ixb_iff k (hits (ls.getD i []) k)).1 hc
              unfold hits at v2
              rw [List.take_of_length_le (by omega)] at v2
              exact (of_decide_eq_false v2) (hon.1 v v1)
            refine hk_sealp 14 4 (hbl_all k (hits (ls.getD i []) k)) (by show AV.sl 4 0 k = AV.sl 4 0 _; rw [hbl_len]) rfl ?_
            refine qj (qc (qc (qf (qa (qm ?_)))))
            refine hk_region fun K hK => runs_eval tab_ok ?_
            simp only [ev0, evA, evB, evP, fl, gp, tab, simprocAttr, reduceCtorEq, reduceIte]
            refine fin_stop trivial (runs_call (containsB_c k (hits (ls.getD i []) k) (by omega)) rfl rfl rfl (by simp only [dstOk, Nat.reduceLT]) (by repeat (first | exact trivial | constructor)) (runs_eval tab_ok ?_))
            simp only [ev0, evA, evB, evP, fl, gp, tab, simprocAttr, reduceCtorEq, reduceIte, hno]
            refine fin_run trivial (hK _ ?_) <;> clear hK <;> clear K
            refine qa ?_
            refine hk_cond rfl (fun hC7 => ?_) (fun hC7 => ?_)
            · cases hC7
            · (try simp only [nhs] at hC7)
              refine qh (qd (qa ?_))
              refine hk_region fun K hK => runs_eval tab_ok ?_
              simp only [ev0, evA, evB, evP, fl, gp, tab, simprocAttr, reduceCtorEq, reduceIte]
              refine fin_run ?_ (hK _ ?_) <;> clear hK <;> clear K
              · (first | exact trivial | omega | (simp only [In64] at *; omega) | (simp [In64] at *; omega) | (simp_all; done) | skip)
              refine qa ?_
              refine ⟨i + 1, [0, 1, 2, 3], by omega, by omega, ?_⟩
              simp only [leq, leA, ev0, evA, evB, evP, fl, gp, tab, simprocAttr, reduceCtorEq, reduceIte] <;> first | trivial | omega
      · (try simp only [nhs] at hC4)
        refine qj (qc (qc (qf (qa (qm (qm ?_))))))
        refine hk_region fun K hK => runs_eval tab_ok ?_
        simp only [ev0, evA, evB, evP, fl, gp, tab, simprocAttr, reduceCtorEq, reduceIte]
        refine fin_run ?_ (hK _ ?_) <;> clear hK <;> clear K
        · (first | exact trivial | omega | (simp only [In64] at *; omega) | (simp [In64] at *; omega) | (simp_all; done) | skip)
        refine qa (ql ?_)
        refine hk_loop (ι := Nat) (fun a => ⟨200, [(2, .p (.list (ll ls))), (3, .ptr 0 0), (4, .ptr 1 0), (6, .ptr 2 0), (7, .ptr 3 0), (89, .p (.int .i64 n')), (90, .p (.int .i64 a))], [.own [.p (.int .i64 n), .p (.list (il m))], .own [.p (.int .i64 n'), .p (.list (il m'))], .own [.p (.int .i64 0), .p .nil], .own [.p (.int .i64 0), .p (.int .i64 0)]]⟩) (fun a => a ≤ n') (fun a => n' - a) 0 (Nat.zero_le _) [0, 1, 2, 3] (by simp only [leq, leA, ev0, evA, evB, evP, fl, gp, tab, simprocAttr, reduceCtorEq, reduceIte] <;> trivial) fun a ha => ?_
        refine qm ?_
        refine hk_region fun K hK => runs_eval tab_ok ?_
        simp only [ev0, evA, evB, evP, fl, gp, tab, simprocAttr, reduceCtorEq, reduceIte]
        refine fin_run trivial (hK _ ?_) <;> clear hK <;> clear K
        refine qa (qm ?_)
        refine hk_cond rfl (fun hC8 => ?_) (fun hC8 => ?_)
        · (try simp only [nhs] at hC8)
          have hal : a < n' := by omega
          refine qh (qa (qm (ql (qm ?_))))
          refine hk_region fun K hK => runs_eval tab_ok ?_
          simp only [ev0, evA, evB, evP, fl, gp, tab, simprocAttr, reduceCtorEq, reduceIte]
          refine fin_run trivial (hK _ ?_) <;> clear hK <;> clear K
          refine qa (qm ?_)
          refine hk_region fun K hK => runs_eval tab_ok ?_
          simp only [ev0, evA, evB, evP, fl, gp, tab, simprocAttr, reduceCtorEq, reduceIte]
          refine fin_run ?_ (hK _ ?_) <;> clear hK <;> clear K
          · (first | exact trivial | omega | (simp only [In64] at *; omega) | (simp [In64] at *; omega) | (simp_all; done) | skip)
          refine qa (ql ?_)
          refine hk_loop (ι := Nat) (fun b => ⟨200, [(2, .p (.list (ll ls))), (3, .ptr 0 0), (4, .ptr 1 0), (6, .ptr 2 0), (7, .ptr 3 0), (17, .p (.int .i64 a)), (89, .p (.int .i64 n')), (90, .p (.int .i64 a)), (94, .p (.int .i64 n')), (95, .p (.int .i64 b))], [.own [.p (.int .i64 n), .p (.list (il m))], .own [.p (.int .i64 n'), .p (.list (il m'))], .own [.p (.int .i64 0), .p .nil], .own [.p (.int .i64 0), .p (.int .i64 0)]]⟩) (fun b => b ≤ n') (fun b => n' - b) 0 (Nat.zero_le _) [0, 1, 2, 3] (by simp only [leq, leA, ev0, evA, evB, evP, fl, gp, tab, simprocAttr, reduceCtorEq, reduceIte] <;> trivial) fun b hb => ?_
          refine qm ?_
          refine hk_region fun K hK => runs_eval tab_ok ?_
          simp only [ev0, evA, evB, evP, fl, gp, tab, simprocAttr, reduceCtorEq, reduceIte]
          refine fin_run trivial (hK _ ?_) <;> clear hK <;> clear K
          refine qa (qm ?_)
          refine hk_cond rfl (fun hC9 => ?_) (fun hC9 => ?_)
          · (try simp only [nhs] at hC9)
            have hbl' : b < n' := by omega
            refine qh (qa (qm (ql (qm ?_))))
            refine hk_region fun K hK => runs_eval tab_ok ?_
            simp only [ev0, evA, evB, evP, fl, gp, tab, simprocAttr, reduceCtorEq, reduceIte]
            refine fin_run trivial (hK _ ?_) <;> clear hK <;> clear K
            refine qa (qm ?_)
            refine hk_region fun K hK => runs_eval tab_ok ?_
            simp only [ev0, evA, evB, evP, fl, gp, tab, simprocAttr, reduceCtorEq, reduceIte]
            refine fin_run ?_ (hK _ ?_) <;> clear hK <;> clear K
            · (first | exact trivial | omega | (simp only [In64] at *; omega) | (simp [In64] at *; omega) | (simp_all; done) | skip)
            refine qa (ql ?_)
            refine hk_loop (ι := Nat) (fun x => ⟨200, [(2, .p (.list (ll ls))), (3, .ptr 0 0), (4, .ptr 1 0), (6, .ptr 2 0), (7, .ptr 3 0), (17, .p (.int .i64 a)), (18, .p (.int .i64 b)), (89, .p (.int .i64 n')), (90, .p (.int .i64 a)), (94, .p (.int .i64 n')), (95, .p (.int .i64 b)), (99, .p (.int .i64 n)), (100, .p (.int .i64 x))], [.own [.p (.int .i64 n), .p (.list (il m))], .own [.p (.int .i64 n'), .p (.list (il m'))], .own [.p (.int .i64 0), .p .nil], .own [.p (.int .i64 0), .p (.int .i64 0)]]⟩) (fun x => x ≤ n) (fun x => n - x) 0 (Nat.zero_le _) [0, 1, 2, 3] (by simp only [leq, leA, ev0, evA, evB, evP, fl, gp, tab, simprocAttr, reduceCtorEq, reduceIte] <;> trivial) fun x hx => ?_
            refine qm ?_
            refine hk_region fun K hK => runs_eval tab_ok ?_
            simp only [ev0, evA, evB, evP, fl, gp, tab, simprocAttr, reduceCtorEq, reduceIte]
            refine fin_run trivial (hK _ ?_) <;> clear hK <;> clear K
            refine qa (qm ?_)
            refine hk_cond rfl (fun hC10 => ?_) (fun hC10 => ?_)
            · (try simp only [nhs] at hC10)
              have hxl : x < n := by omega
              have hab := G'.cl a b hal hbl'
              have r1 := hrow _ hab
              have r2 := hrow a hal
              have r3 := hrow b hbl'
              have v1 := r1.2 x hxl
              have v3 := r3.2 x hxl
              have l3 := A.lt b x hbl' hxl
              have v2 := r2.2 _ l3
              have hmu := A.mul a b x hal hbl' hxl
              rw [hmu] at v1
              refine qh (qa (qm (ql (qm ?_))))
              refine hk_region fun K hK => runs_eval tab_ok ?_
              simp only [ev0, evA, evB, evP, fl, gp, tab, simprocAttr, reduceCtorEq, reduceIte]
              refine fin_run trivial (hK _ ?_) <;> clear hK <;> clear K
              refine qa (qm ?_)
              refine hk_draw mixed (by kernel_rfl) fun K hK => runs_eval tab_ok ?_
              simp only [ev0, evA, evB, evP, fl, gp, tab, simprocAttr, reduceCtorEq, reduceIte, ll_length, ll_get (show op m' n' a b < ls.length by omega), ll_get (show a < ls.length by omega), ll_get (show b < ls.length by omega), il_length, il_get (show x < (ls.getD (op m' n' a b) []).length by omega), v1, il_get (show x < (ls.getD b []).length by omega), v3, il_get (show alp ls b x < (ls.getD a []).length by omega), v2]
              refine fin_stop ?_ (runs_call (of_c T' hal hbl') rfl rfl rfl (by simp only [dstOk, Nat.reduceLT]) (by repeat (first | exact trivial | constructor)) (runs_eval tab_ok ?_))
              · (first | exact trivial | omega | (simp only [In64] at *; omega) | (simp [In64] at *; omega) | (simp_all; done) | skip)
              simp only [ev0, evA, evB, evP, fl, gp, tab, simprocAttr, reduceCtorEq, reduceIte, ll_length, ll_get (show op m' n' a b < ls.length by omega), ll_get (show a < ls.length by omega), ll_get (show b < ls.length by omega), il_length, il_get (show x < (ls.getD (op m' n' a b) []).length by omega), v1, il_get (show x < (ls.getD b []).length by omega), v3, il_get (show alp ls b x < (ls.getD a []).length by omega), v2]
              refine fin_run ?_ (hK _ ?_) <;> clear hK <;> clear K
              · (first | exact trivial | omega | (simp only [In64] at *; omega) | (simp [In64] at *; omega) | (simp_all; done) | skip)
              refine qa ?_
              refine hk_cond rfl (fun hC11 => ?_) (fun hC11 => ?_)
              · cases hC11
              · (try simp only [nhs] at hC11)
                refine qh (qd (qa ?_))
                refine hk_region fun K hK => runs_eval tab_ok ?_
                simp only [ev0, evA, evB, evP, fl, gp, tab, simprocAttr, reduceCtorEq, reduceIte]
                refine fin_run ?_ (hK _ ?_) <;> clear hK <;> clear K
                · (first | exact trivial | omega | (simp only [In64] at *; omega) | (simp [In64] at *; omega) | (simp_all; done) | skip)
                refine qa ?_
                refine ⟨x + 1, [0, 1, 2, 3], by omega, by omega, ?_⟩
                simp only [leq, leA, ev0, evA, evB, evP, fl, gp, tab, simprocAttr, reduceCtorEq, reduceIte] <;> first | trivial | omega
            · (try simp only [nhs] at hC10)
              refine qj (qc (qc (qf (qd (qa ?_)))))
              refine hk_region fun K hK => runs_eval tab_ok ?_
              simp only [ev0, evA, evB, evP, fl, gp, tab, simprocAttr, reduceCtorEq, reduceIte]
              refine fin_run ?_ (hK _ ?_) <;> clear hK <;> clear K
              · (first | exact trivial | omega | (simp only [In64] at *; omega) | (simp [In64] at *; omega) | (simp_all; done) | skip)
              refine qa ?_
              refine ⟨b + 1, [0, 1, 2, 3], by omega, by omega, ?_⟩
              simp only [leq, leA, ev0, evA, evB, evP, fl, gp, tab, simprocAttr, reduceCtorEq, reduceIte] <;> first | trivial | omega
          · (try simp only [nhs] at hC9)
            refine qj (qc (qc (qf (qd (qa ?_)))))
            refine hk_region fun K hK => runs_eval tab_ok ?_
            simp only [ev0, evA, evB, evP, fl, gp, tab, simprocAttr, reduceCtorEq, reduceIte]
            refine fin_run ?_ (hK _ ?_) <;> clear hK <;> clear K
            · (first | exact trivial | omega | (simp only [In64] at *; omega) | (simp [In64] at *; omega) | (simp_all; done) | skip)
            refine qa ?_
            refine ⟨a + 1, [0, 1, 2, 3], by omega, by omega, ?_⟩
            simp only [leq, leA, ev0, evA, evB, evP, fl, gp, tab, simprocAttr, reduceCtorEq, reduceIte] <;> first | trivial | omega
        · (try simp only [nhs] at hC8)
          refine qj (qc (qc (qf (qa (qm (qm ?_))))))
          refine hk_region fun K hK => runs_eval tab_ok ?_
          simp only [ev0, evA, evB, evP, fl, gp, tab, simprocAttr, reduceCtorEq, reduceIte, hmul]
          refine fin_run ?_ (hK _ ?_) <;> clear hK <;> clear K
          · (first | exact trivial | omega | (simp only [In64] at *; omega) | (simp [In64] at *; omega) | (simp_all; done) | skip)
          refine qa ?_
          refine hk_cond rfl (fun hC12 => ?_) (fun hC12 => ?_)
          · (try simp only [nhs] at hC12)
            omega
          · (try simp only [nhs] at hC12)
            refine qh (qa (qm ?_))
            refine hk_region fun K hK => runs_eval tab_ok ?_
            simp only [ev0, evA, evB, evP, fl, gp, tab, simprocAttr, reduceCtorEq, reduceIte, hmul]
            refine fin_run ?_ (hK _ ?_) <;> clear hK <;> clear K
            · (first | exact trivial | omega | (simp only [In64] at *; omega) | (simp [In64] at *; omega) | (simp_all; done) | skip)
            refine qa (qm (qm ?_))
            refine hk_own0c 4 1 rfl rfl ?_
            simp only [hset, List.cons_append, List.nil_append, List.set, List.length_cons, List.length_nil]
            refine hk_region fun K hK => runs_eval tab_ok ?_
            simp only [ev0, evA, evB, evP, fl, gp, tab, simprocAttr, reduceCtorEq, reduceIte]
            refine fin_run ?_ (hK _ ?_) <;> clear hK <;> clear K
            · (first | exact trivial | omega | (simp only [In64] at *; omega) | (simp [In64] at *; omega) | (simp_all; done) | skip)
            refine qa (ql ?_)
            refine hk_loop (ι := Nat) (fun i => ⟨200, [(2, .p (.list (ll ls))), (3, .ptr 0 0), (4, .ptr 1 0), (6, .ptr 2 0), (7, .ptr 3 0), (20, .ptr 4 0), (148, .p (.int .i64 (n * n' : Nat))), (149, .p (.int .i64 i))], [.own [.p (.int .i64 n), .p (.list (il m))], .own [.p (.int .i64 n'), .p (.list (il m'))], .own [.p (.int .i64 0), .p .nil], .own [.p (.int .i64 0), .p (.int .i64 0)], .own [.p (.int .i64 (n * n' : Nat)), .sl 5 0 (tbr (sgm n n' m m' ls) (n * n') (i * (n * n'))).length], .own (ol (tbr (sgm n n' m m' ls) (n * n') (i * (n * n'))))]⟩) (fun i => i ≤ n * n') (fun i => n * n' - i) 0 (Nat.zero_le _) [0, 1, 2, 3, 4, 5] (by rw [Nat.zero_mul]; simp only [leq, leA, ev0, evA, evB, evP, fl, gp, tab, simprocAttr, reduceCtorEq, reduceIte] <;> first | trivial | simp [tbr, rg, ol_nil]) fun i hi => ?_
            refine qm ?_
            refine hk_region fun K hK => runs_eval tab_ok ?_
            simp only [ev0, evA, evB, evP, fl, gp, tab, simprocAttr, reduceCtorEq, reduceIte]
            refine fin_run trivial (hK _ ?_) <;> clear hK <;> clear K
            refine qa (qm ?_)
            refine hk_cond rfl (fun hC13 => ?_) (fun hC13 => ?_)
            · (try simp only [nhs] at hC13)
              have hil : i < n * n' := by omega
              refine qh (qa (qm (ql (qm ?_))))
              refine hk_region fun K hK => runs_eval tab_ok ?_
              simp only [ev0, evA, evB, evP, fl, gp, tab, simprocAttr, reduceCtorEq, reduceIte]
              refine fin_run trivial (hK _ ?_) <;> clear hK <;> clear K
              refine qa (qm ?_)
              refine hk_region fun K hK => runs_eval tab_ok ?_
              simp only [ev0, evA, evB, evP, fl, gp, tab, simprocAttr, reduceCtorEq, reduceIte]
              refine fin_run ?_ (hK _ ?_) <;> clear hK <;> clear K
              · (first | exact trivial | omega | (simp only [In64] at *; omega) | (simp [In64] at *; omega) | (simp_all; done) | skip)
              refine qa (ql ?_)
              refine hk_loop (ι := Nat) (fun k => ⟨200, [(2, .p (.list (ll ls))), (3, .ptr 0 0), (4, .ptr 1 0), (6, .ptr 2 0), (7, .ptr 3 0), (20, .ptr 4 0), (21, .p (.int .i64 i)), (148, .p (.int .i64 (n * n' : Nat))), (149, .p (.int .i64 i)), (153, .p (.int .i64 (n * n' : Nat))), (154, .p (.int .i64 k))], [.own [.p (.int .i64 n), .p (.list (il m))], .own [.p (.int .i64 n'), .p (.list (il m'))], .own [.p (.int .i64 0), .p .nil], .own [.p (.int .i64 0), .p (.int .i64 0)], .own [.p (.int .i64 (n * n' : Nat)), .sl 5 0 (tbr (sgm n n' m m' ls) (n * n') (i * (n * n') + k)).length], .own (ol (tbr (sgm n n' m m' ls) (n * n') (i * (n * n') + k)))]⟩) (fun k => k ≤ n * n') (fun k => n * n' - k) 0 (Nat.zero_le _) [0, 1, 2, 3, 4, 5] (by rw [Nat.add_zero]; simp only [leq, leA, ev0, evA, evB, evP, fl, gp, tab, simprocAttr, reduceCtorEq, reduceIte] <;> trivial) fun k hk => ?_
              refine qm ?_
              refine hk_region fun K hK => runs_eval tab_ok ?_
              simp only [ev0, evA, evB, evP, fl, gp, tab, simprocAttr, reduceCtorEq, reduceIte]
              refine fin_run trivial (hK _ ?_) <;> clear hK <;> clear K
              refine qa (qm ?_)
              refine hk_cond rfl (fun hC14 => ?_) (fun hC14 => ?_)
              · (try simp only [nhs] at hC14)
                have hkl : k < n * n' := by omega
                have hat := at_lt hil hkl
                have hl' := hlen (i * (n * n') + k)
                obtain ⟨i1, i2, _⟩ := pr_split G'.pos hil
                obtain ⟨k1, k2, _⟩ := pr_split G'.pos hkl
                have hpos := G'.pos
                have ra := hrow _ i2
                have va := ra.2 _ k1
                have la := A.lt _ _ i2 k1
                have o1 := G.cl _ _ i1 la
                have o2 := G'.cl _ _ i2 k2
                have p1 : op m n (i / n') (alp ls (i % n') (k / n')) * n' ≤ 60 * 60 := Nat.mul_le_mul (by omega) hs2
                have p2 : ((op m n (i / n') (alp ls (i % n') (k / n')) : Nat) : Int) * (n' : Int) = ((op m n (i / n') (alp ls (i % n') (k / n')) * n' : Nat) : Int) := (Int.natCast_mul _ _).symm
                have p3 : ((op m n (i / n') (alp ls (i % n') (k / n')) * n' : Nat) : Int) + ((op m' n' (i % n') (k % n') : Nat) : Int) = sgm n n' m m' ls i k := rfl
                refine qh (qa (qm (ql (qm ?_))))
                refine hk_region fun K hK => runs_eval tab_ok ?_
                simp only [ev0, evA, evB, evP, fl, gp, tab, simprocAttr, reduceCtorEq, reduceIte]
                refine fin_run trivial (hK _ ?_) <;> clear hK <;> clear K
                refine qa (qm ?_)
                refine hk_draw mixed (by kernel_rfl) fun K hK => runs_eval tab_ok ?_
                simp only [ev0, evA, evB, evP, fl, gp, tab, simprocAttr, reduceCtorEq, reduceIte, tm_nat, td_nat]
                refine fin_run ?_ (hK _ ?_) <;> clear hK <;> clear K
                · generalize i / n' = s at *; generalize k / n' = t at *; generalize i % n' = u at *; generalize k % n' = v at *; simp only [In64]; omega
                refine qa ?_
                refine hk_draw2 mixed fun K hK => runs2_eval tab_ok ?_
                simp only [evD, ev0, evA, evB, evP, fl, gp, tab, simprocAttr, reduceCtorEq, reduceIte, ll_length, ll_get (show i % n' < ls.length by omega), il_length, il_get (show k / n' < (ls.getD (i % n') []).length by omega), va, p2, p3]
                refine fin2_stop ?_ (runs2_call (of_c T i1 la) rfl rfl rfl rfl (by simp only [dstOk, Nat.reduceLT]) (by repeat (first | exact trivial | constructor)) (runs2_eval tab_ok ?_))
                · generalize i / n' = s at *; generalize k / n' = t at *; generalize i % n' = u at *; generalize k % n' = v at *; omega
                simp only [evD, ev0, evA, evB, evP, fl, gp, tab, simprocAttr, reduceCtorEq, reduceIte, ll_length, ll_get (show i % n' < ls.length by omega), il_length, il_get (show k / n' < (ls.getD (i % n') []).length by omega), va, p2, p3]
                refine fin2_stop ?_ (runs2_call (of_c T' i2 k2) rfl rfl rfl rfl (by simp only [dstOk, Nat.reduceLT]) (by repeat (first | exact trivial | constructor)) (runs2_eval tab_ok ?_))
                · (first | exact trivial | omega | (simp only [In64] at *; omega) | (simp [In64] at *; omega) | (simp_all; done) | skip)
                simp only [evD, ev0, evA, evB, evP, fl, gp, tab, simprocAttr, reduceCtorEq, reduceIte, ll_length, ll_get (show i % n' < ls.length by omega), il_length, il_get (show k / n' < (ls.getD (i % n') []).length by omega), va, p2, p3]
                refine fin2_run ?_ (hK _ _ (by first | kernel_rfl | rfl) ?_) <;> clear hK <;> clear K
                · (first | exact trivial | omega | (simp only [In64] at *; omega) | (simp [In64] at *; omega) | (simp_all; done) | skip)
                refine qd (qa ?_)
                refine hk_region fun K hK => runs_eval tab_ok ?_
                simp only [ev0, evA, evB, evP, fl, gp, tab, simprocAttr, reduceCtorEq, reduceIte]
                refine fin_run ?_ (hK _ ?_) <;> clear hK <;> clear K
                · (first | exact trivial | omega | (simp only [In64] at *; omega) | (simp [In64] at *; omega) | (simp_all; done) | skip)
                refine qa ?_
                refine ⟨k + 1, [0, 1, 2, 3, 4, 6], by omega, by omega, ?_⟩
                rw [tbr_succ (sgm n n' m m' ls) hkl]
                simp only [leq, leA, ev0, evA, evB, evP, fl, gp, tab, simprocAttr, reduceCtorEq, reduceIte] <;> first | trivial | omega
              · (try simp only [nhs] at hC14)
                have hkn : k = n * n' := by omega
                refine qj (qc (qc (qf (qd (qa ?_)))))
                refine hk_region fun K hK => runs_eval tab_ok ?_
                simp only [ev0, evA, evB, evP, fl, gp, tab, simprocAttr, reduceCtorEq, reduceIte]
                refine fin_run ?_ (hK _ ?_) <;> clear hK <;> clear K
                · (first | exact trivial | omega | (simp only [In64] at *; omega) | (simp [In64] at *; omega) | (simp_all; done) | skip)
                refine qa ?_
                refine ⟨i + 1, [0, 1, 2, 3, 4, 5], by omega, by omega, ?_⟩
                rw [hkn, show (i + 1) * (n * n') = i * (n * n') + n * n' by rw [Nat.add_mul, Nat.one_mul]]
                simp only [leq, leA, ev0, evA, evB, evP, fl, gp, tab, simprocAttr, reduceCtorEq, reduceIte] <;> first | trivial | omega
            · (try simp only [nhs] at hC13)
              have hin : i = n * n' := by omega
              refine qj (qc (qc (qf (qa (qm ?_)))))
              refine hk_region fun K hK => runs_eval tab_ok ?_
              simp only [ev0, evA, evB, evP, fl, gp, tab, simprocAttr, reduceCtorEq, reduceIte]
              refine fin_run ?_ (hK _ ?_) <;> clear hK <;> clear K
              · (first | exact trivial | omega | (simp only [In64] at *; omega) | (simp [In64] at *; omega) | (simp_all; done) | skip)
              refine qa (qk ?_)
              simp only [Tryd.results84, enA, ev0, evA, evB, evP, fl, gp, tab, simprocAttr, reduceCtorEq, reduceIte]
              simp [hin, tbl, sg]
              rfl
end Go.Proofs.YtjikchbmkodgfaaDoor

/-
  Walks: the document's example of a semidirect product. Conditions: none.
-/
set_option linter.all false
namespace Go.Proofs.YtjikchbmkodgfaaDoor
open Go.Pv

def cyt (n : Nat) : List Int := tbl (fun a b => (((a + b) % n : Nat) : Int)) n
theorem cyt3 : ∃ e, GT (3 : Nat) (cyt 3) 3 e := by
  have hg : (gf 3 (cyt 3)).1 = 0 := by decide +kernel
  obtain ⟨n, e, h, _⟩ := gf_ok hg
  obtain rfl : n = 3 := by have := h.1; omega
  exact ⟨e, h⟩
theorem cyt2 : ∃ e, GT (2 : Nat) (cyt 2) 2 e := by
  have hg : (gf 2 (cyt 2)).1 = 0 := by decide +kernel
  obtain ⟨n, e, h, _⟩ := gf_ok hg
  obtain rfl : n = 2 := by have := h.1; omega
  exact ⟨e, h⟩
def s3t : List Int := sg 3 2 (cyt 3) (cyt 2) [[0, 1, 2], [0, 2, 1]]
theorem s3_tab : Tab 6 s3t := by
  have hg : (gf 6 s3t).1 = 0 := by decide +kernel
  obtain ⟨n, e, h, _⟩ := gf_ok hg
  obtain rfl : n = 6 := by have := h.1; omega
  exact h.2.1
theorem prodBegun_c : FnC Tryd.prog 34 [] (.bool true) := by
  obtain ⟨e, h⟩ := cyt3
  obtain ⟨e', h'⟩ := cyt2
  have hr : ∀ j, j < 2 → rwc (3 : Nat) (cyt 3) (List.getD [[0, 1, 2], [0, 2, 1]] j []) = 0 := by decide +kernel
  have hmg : ∀ j, j < 2 → mgd (cyt 2) 2 [[0, 1, 2], [0, 2, 1]] j := by decide +kernel
  have hsemi : FnC Tryd.prog 84 [gp 3 (cyt 3), gp 2 (cyt 2), .list (ll [[0, 1, 2], [0, 2, 1]])] (.tup [gp 6 s3t, fl (0, 0)]) := semi_ok h h' rfl hr hmg (by decide)
  have hr3 := ringOf_c 3 (by decide) (by decide)
  have hr2 := ringOf_c 2 (by decide) (by decide)
  have hab : decide (abel s3t 6) = false := by decide +kernel
  have hco := commutes_c s3_tab
  rw [hab] at hco
  refine fnc_of tab_ok Tryd.func34 rfl (by kernel_rfl) (by rw [Tryd.ntmps34]; exact Nat.le_add_left 0 _) ?_; rw [Tryd.ntmps34]
  refine qm ?_
  refine hk_region fun K hK => runs_eval tab_ok ?_
  simp only [ev0, evA, evB, evP, fl, gp, tab, simprocAttr, reduceCtorEq, reduceIte]
  refine fin_run trivial (hK _ ?_) <;> clear hK <;> clear K
  refine qa (qm ?_)
  refine hk_region fun K hK => runs_eval tab_ok ?_
  simp only [ev0, evA, evB, evP, fl, gp, tab, simprocAttr, reduceCtorEq, reduceIte]
  refine fin_stop trivial (runs_call (hr3) rfl rfl rfl (by simp only [dstOk, Nat.reduceLT]) (by repeat (first | exact trivial | constructor)) (runs_eval tab_ok ?_))
  simp only [ev0, evA, evB, evP, fl, gp, tab, simprocAttr, reduceCtorEq, reduceIte]
  refine fin_stop trivial (runs_call (hr2) rfl rfl rfl (by simp only [dstOk, Nat.reduceLT]) (by repeat (first | exact trivial | constructor)) (runs_eval tab_ok ?_))
  simp only [ev0, evA, evB, evP, fl, gp, tab, simprocAttr, reduceCtorEq, reduceIte]
  refine fin_stop ?_ (runs_call (FnC.weak (args' := [gp 3 (cyt 3), gp 2 (cyt 2), .nn [.nn (il [0, 1, 2]), .nn (il [0, 2, 1])]]) hsemi ⟨.rfl, .rfl, .nn2, trivial⟩) rfl rfl rfl (by simp only [dstOk, Nat.reduceLT]) (by repeat (first | exact trivial | constructor)) (runs_eval tab_ok ?_))
  · (first | exact trivial | omega | (simp only [In64] at *; omega) | (simp [In64] at *; omega) | (simp_all; done) | skip)
  simp only [ev0, evA, evB, evP, fl, gp, tab, simprocAttr, reduceCtorEq, reduceIte]
  refine fin_run ?_ (hK _ ?_) <;> clear hK <;> clear K
  · (first | exact trivial | omega | (simp only [In64] at *; omega) | (simp [In64] at *; omega) | (simp_all; done) | skip)
  refine qa (qm ?_)
  refine hk_region fun K hK => runs_eval tab_ok ?_
  simp only [ev0, evA, evB, evP, fl, gp, tab, simprocAttr, reduceCtorEq, reduceIte]
  refine fin_stop trivial (runs_call (hco) rfl rfl rfl (by simp only [dstOk, Nat.reduceLT]) (by repeat (first | exact trivial | constructor)) (runs_eval tab_ok ?_))
  simp only [ev0, evA, evB, evP, fl, gp, tab, simprocAttr, reduceCtorEq, reduceIte]
  refine fin_run ?_ (hK _ ?_) <;> clear hK <;> clear K
  · (first | exact trivial | omega | (simp only [In64] at *; omega) | (simp [In64] at *; omega) | (simp_all; done) | skip)
  refine qa (qk ?_)
  simp only [Tryd.results34, enA, ev0, evA, evB, evP, fl, gp, tab, simprocAttr, reduceCtorEq, reduceIte]
  all_goals (rfl)
end Go.Proofs.YtjikchbmkodgfaaDoor

/-
  Walks: the law ProdComplements. Conditions: none.
-/
set_option linter.all false
namespace Go.Proofs.YtjikchbmkodgfaaDoor
open Go.Pv

section
variable {n e : Nat} {m : List Int}
theorem lawCpl_w (N : Int) (m l : List Int) (w : Int × Int) (hm : m.length ≤ 17592186043904) (hl : l.length ≤ 17592186043904) (hw : ¬ w.1 = 0) (hC : FnC Tryd.prog 32 [gp N m, .list (il l)] (.tup [.list (ll []), fl w])) (hF : FnC Tryd.prog 33 [gp N m, .list (il l)] (fl w)) : FnC Tryd.prog 6 [gp N m, .list (il l)] (.bool true) := by
  refine fnc_of tab_ok Tryd.func6 rfl (by kernel_rfl) (by rw [Tryd.ntmps6]; exact Nat.le_add_left 2 _) ?_; rw [Tryd.ntmps6]
  refine qm ?_
  refine hk_region fun K hK => runs_eval tab_ok ?_
  simp only [ev0, evA, evB, evP, fl, gp, tab, simprocAttr, reduceCtorEq, reduceIte]
  refine fin_run ?_ (hK _ ?_) <;> clear hK <;> clear K
  · (first | exact trivial | omega | (simp only [In64] at *; omega) | (simp [In64] at *; omega) | (simp_all; done) | skip)
  refine qa (qm ?_)
  refine hk_draw2 mixed fun K hK => runs2_eval tab_ok ?_
  simp only [evD, ev0, evA, evB, evP, fl, gp, tab, simprocAttr, reduceCtorEq, reduceIte]
  refine fin2_stop trivial (runs2_call (ownGroup_c N m hm) rfl rfl rfl rfl (by simp only [dstOk, Nat.reduceLT]) (by repeat (first | exact trivial | constructor)) (runs2_eval tab_ok ?_))
  simp only [evD, ev0, evA, evB, evP, fl, gp, tab, simprocAttr, reduceCtorEq, reduceIte]
  refine fin2_stop trivial (runs2_call (own_c l hl) rfl rfl rfl rfl (by simp only [dstOk, Nat.reduceLT]) (by repeat (first | exact trivial | constructor)) (runs2_eval tab_ok ?_))
  simp only [evD, ev0, evA, evB, evP, fl, gp, tab, simprocAttr, reduceCtorEq, reduceIte]
  refine fin2_stop trivial (runs2_call (hC) rfl rfl rfl rfl (by simp only [dstOk, Nat.reduceLT]) (by repeat (first | exact trivial | constructor)) (runs2_eval tab_ok ?_))
  simp only [evD, ev0, evA, evB, evP, fl, gp, tab, simprocAttr, reduceCtorEq, reduceIte]
  refine fin2_run ?_ (hK _ _ (by first | kernel_rfl | rfl) ?_) <;> clear hK <;> clear K
  · (first | exact trivial | omega | (simp only [In64] at *; omega) | (simp [In64] at *; omega) | (simp_all; done) | skip)
  refine qa (qm ?_)
  refine hk_region fun K hK => runs_eval tab_ok ?_
  simp only [ev0, evA, evB, evP, fl, gp, tab, simprocAttr, reduceCtorEq, reduceIte]
  refine fin_stop trivial (runs_call (hF) rfl rfl rfl (by simp only [dstOk, Nat.reduceLT]) (by repeat (first | exact trivial | constructor)) (runs_eval tab_ok ?_))
  simp only [ev0, evA, evB, evP, fl, gp, tab, simprocAttr, reduceCtorEq, reduceIte]
  refine fin_run ?_ (hK _ ?_) <;> clear hK <;> clear K
  · (first | exact trivial | omega | (simp only [In64] at *; omega) | (simp [In64] at *; omega) | (simp_all; done) | skip)
  refine qa (qm (qm ?_))
  refine hk_region fun K hK => runs_eval tab_ok ?_
  simp only [ev0, evA, evB, evP, fl, gp, tab, simprocAttr, reduceCtorEq, reduceIte, decide_eq_false hw]
  refine fin_run ?_ (hK _ ?_) <;> clear hK <;> clear K
  · (first | exact trivial | omega | (simp only [In64] at *; omega) | (simp [In64] at *; omega) | (simp_all; done) | skip)
  refine qa ?_
  refine hk_cond rfl (fun hC1 => ?_) (fun hC1 => ?_)
  · cases hC1
  · refine qh (qa (qm (qm ?_)))
    refine hk_freeze 0 rfl rfl ?_
    refine hk_freeze 1 rfl rfl ?_
    simp only [hset]
    refine hk_region fun K hK => runs_eval tab_ok ?_
    simp only [ev0, evA, evB, evP, fl, gp, tab, simprocAttr, reduceCtorEq, reduceIte]
    refine fin_stop trivial (runs_call (prodBegun_c) rfl rfl rfl (by simp only [dstOk, Nat.reduceLT]) (by repeat (first | exact trivial | constructor)) (runs_eval tab_ok ?_))
    simp only [ev0, evA, evB, evP, fl, gp, tab, simprocAttr, reduceCtorEq, reduceIte]
    refine fin_stop trivial (runs_call (listsAs_B [] w _ _ (by simp) (fun x hx => by simp at hx) (fun _ => rfl) (fun h => absurd h hw)) rfl rfl rfl (by simp only [dstOk, Nat.reduceLT]) (by repeat (first | exact trivial | constructor)) (runs_eval tab_ok ?_))
    simp only [ev0, evA, evB, evP, fl, gp, tab, simprocAttr, reduceCtorEq, reduceIte]
    refine fin_run ?_ (hK _ ?_) <;> clear hK <;> clear K
    · (first | exact trivial | omega | (simp only [In64] at *; omega) | (simp [In64] at *; omega) | (simp_all; done) | skip)
    refine qa ?_
    refine hk_cond rfl (fun hC2 => ?_) (fun hC2 => ?_)
    · cases hC2
    · (try simp only [nhs] at hC2)
      refine qh (qa (qm ?_))
      refine hk_draw mixed (by kernel_rfl) fun K hK => runs_eval tab_ok ?_
      simp only [ev0, evA, evB, evP, fl, gp, tab, simprocAttr, reduceCtorEq, reduceIte, decide_eq_false hw]
      refine fin_run ?_ (hK _ ?_) <;> clear hK <;> clear K
      · (first | exact trivial | omega | (simp only [In64] at *; omega) | (simp [In64] at *; omega) | (simp_all; done) | skip)
      refine qa (qk ?_)
      simp only [Tryd.results6, enA, ev0, evA, evB, evP, fl, gp, tab, simprocAttr, reduceCtorEq, reduceIte]
      all_goals (rfl)
theorem lawCpl_big (h : GT n m n e) (hn : ¬ n ≤ 24) {p : Nat → Bool} (hp : Sub n (op m n) e p) (hN : Nml n (op m n) e p) : FnC Tryd.prog 6 [gp n m, .list (il (thl n p))] (.bool true) := by
  have hb := h.2.1.big
  have hml := h.2.1.len
  have hsq := sq_le hb
  have lp := thl_le n p
  refine fnc_of tab_ok Tryd.func6 rfl (by kernel_rfl) (by rw [Tryd.ntmps6]; exact Nat.le_add_left 2 _) ?_; rw [Tryd.ntmps6]
  refine qm ?_
  refine hk_region fun K hK => runs_eval tab_ok ?_
  simp only [ev0, evA, evB, evP, fl, gp, tab, simprocAttr, reduceCtorEq, reduceIte]
  refine fin_run ?_ (hK _ ?_) <;> clear hK <;> clear K
  · (first | exact trivial | omega | (simp only [In64] at *; omega) | (simp [In64] at *; omega) | (simp_all; done) | skip)
  refine qa (qm ?_)
  refine hk_draw2 mixed fun K hK => runs2_eval tab_ok ?_
  simp only [evD, ev0, evA, evB, evP, fl, gp, tab, simprocAttr, reduceCtorEq, reduceIte]
  refine fin2_stop trivial (runs2_call (ownGroup_c n m (by omega)) rfl rfl rfl rfl (by simp only [dstOk, Nat.reduceLT]) (by repeat (first | exact trivial | constructor)) (runs2_eval tab_ok ?_))
  simp only [evD, ev0, evA, evB, evP, fl, gp, tab, simprocAttr, reduceCtorEq, reduceIte]
  refine fin2_stop trivial (runs2_call (own_c (thl n p) (by omega)) rfl rfl rfl rfl (by simp only [dstOk, Nat.reduceLT]) (by repeat (first | exact trivial | constructor)) (runs2_eval tab_ok ?_))
  simp only [evD, ev0, evA, evB, evP, fl, gp, tab, simprocAttr, reduceCtorEq, reduceIte]
  refine fin2_stop trivial (runs2_call (compl_big h hn hp hN) rfl rfl rfl rfl (by simp only [dstOk, Nat.reduceLT]) (by repeat (first | exact trivial | constructor)) (runs2_eval tab_ok ?_))
  simp only [evD, ev0, evA, evB, evP, fl, gp, tab, simprocAttr, reduceCtorEq, reduceIte]
  refine fin2_run ?_ (hK _ _ (by first | kernel_rfl | rfl) ?_) <;> clear hK <;> clear K
  · (first | exact trivial | omega | (simp only [In64] at *; omega) | (simp [In64] at *; omega) | (simp_all; done) | skip)
  refine qa (qm ?_)
  refine hk_region fun K hK => runs_eval tab_ok ?_
  simp only [ev0, evA, evB, evP, fl, gp, tab, simprocAttr, reduceCtorEq, reduceIte]
  refine fin_stop trivial (runs_call (normalFault_ok h p hp true (by simp [hN])) rfl rfl rfl (by simp only [dstOk, Nat.reduceLT]) (by repeat (first | exact trivial | constructor)) (runs_eval tab_ok ?_))
  simp only [ev0, evA, evB, evP, fl, gp, tab, simprocAttr, reduceCtorEq, reduceIte]
  refine fin_run ?_ (hK _ ?_) <;> clear hK <;> clear K
  · (first | exact trivial | omega | (simp only [In64] at *; omega) | (simp [In64] at *; omega) | (simp_all; done) | skip)
  refine qa (qm (qm ?_))
  refine hk_region fun K hK => runs_eval tab_ok ?_
  simp only [ev0, evA, evB, evP, fl, gp, tab, simprocAttr, reduceCtorEq, reduceIte, nfb_t, decide_eq_true (show ((n : Nat) : Int) > 24 by omega)]
  refine fin_run ?_ (hK _ ?_) <;> clear hK <;> clear K
  · (first | exact trivial | omega | (simp only [In64] at *; omega) | (simp [In64] at *; omega) | (simp_all; done) | skip)
  refine qa ?_
  refine hk_cond rfl (fun hC1 => ?_) (fun hC1 => ?_)
  · (try simp only [nhs] at hC1)
    refine hk_region fun K hK => runs_eval tab_ok ?_
    simp only [ev0, evA, evB, evP, fl, gp, tab, simprocAttr, reduceCtorEq, reduceIte]
    refine fin_stop trivial (runs_call (f_c 2 0) rfl rfl rfl (by simp only [dstOk, Nat.reduceLT]) (by repeat (first | exact trivial | constructor)) (runs_eval tab_ok ?_))
    simp only [ev0, evA, evB, evP, fl, gp, tab, simprocAttr, reduceCtorEq, reduceIte]
    refine fin_run ?_ (hK _ ?_) <;> clear hK <;> clear K
    · (first | exact trivial | omega | (simp only [In64] at *; omega) | (simp [In64] at *; omega) | (simp_all; done) | skip)
    refine qa (qm (qm ?_))
    refine hk_freeze 0 rfl rfl ?_
    refine hk_freeze 1 rfl rfl ?_
    simp only [hset]
    refine hk_region fun K hK => runs_eval tab_ok ?_
    simp only [ev0, evA, evB, evP, fl, gp, tab, simprocAttr, reduceCtorEq, reduceIte]
    refine fin_stop trivial (runs_call (prodBegun_c) rfl rfl rfl (by simp only [dstOk, Nat.reduceLT]) (by repeat (first | exact trivial | constructor)) (runs_eval tab_ok ?_))
    simp only [ev0, evA, evB, evP, fl, gp, tab, simprocAttr, reduceCtorEq, reduceIte]
    refine fin_stop trivial (runs_call (listsAs_B [] (2, 0) _ _ (by simp) (fun x hx => by simp at hx) (fun _ => rfl) (fun h => by simp at h)) rfl rfl rfl (by simp only [dstOk, Nat.reduceLT]) (by repeat (first | exact trivial | constructor)) (runs_eval tab_ok ?_))
    simp only [ev0, evA, evB, evP, fl, gp, tab, simprocAttr, reduceCtorEq, reduceIte]
    refine fin_run ?_ (hK _ ?_) <;> clear hK <;> clear K
    · (first | exact trivial | omega | (simp only [In64] at *; omega) | (simp [In64] at *; omega) | (simp_all; done) | skip)
    refine qa ?_
    refine hk_cond rfl (fun hC2 => ?_) (fun hC2 => ?_)
    · cases hC2
    · (try simp only [nhs] at hC2)
      refine qh (qa (qm ?_))
      refine hk_draw mixed (by kernel_rfl) fun K hK => runs_eval tab_ok ?_
      simp only [ev0, evA, evB, evP, fl, gp, tab, simprocAttr, reduceCtorEq, reduceIte]
      refine fin_run ?_ (hK _ ?_) <;> clear hK <;> clear K
      · (first | exact trivial | omega | (simp only [In64] at *; omega) | (simp [In64] at *; omega) | (simp_all; done) | skip)
      refine qa (qk ?_)
      simp only [Tryd.results6, enA, ev0, evA, evB, evP, fl, gp, tab, simprocAttr, reduceCtorEq, reduceIte]
      all_goals (rfl)
  · cases hC1
set_option maxHeartbeats 4000000 in
theorem lawCpl_ok (h : GT n m n e) (hn : n ≤ 24) {p : Nat → Bool} (hp : Sub n (op m n) e p) (hN : Nml n (op m n) e p) : FnC Tryd.prog 6 [gp n m, .list (il (thl n p))] (.bool true) := by
  have G := h.2.2
  have hb := h.2.1.big
  have hml := h.2.1.len
  have hsq := sq_le hb
  have lp := thl_le n p
  have ep : (thl n p).length = (mem n p).length := thl_len _ _
  have hpp := hp.pos G.el
  obtain ⟨SL, hS⟩ := alls_ex G hb
  have hSl := hS.len hn
  have hsl := sll_len (SL.filter (cpb n p))
  have hle : (SL.filter (cpb n p)).length ≤ SL.length := List.length_filter_le _ _
  have hrows : ∀ w ∈ sll (SL.filter (cpb n p)), w.length ≤ 1000000 := fun w hw => by
    obtain ⟨x, hx, rfl⟩ := List.mem_map.1 hw
    obtain ⟨q, _, rfl⟩ := hS.subs x (List.mem_filter.1 hx).1
    rw [stl_bo hb]
    have := thl_le n q
    omega
  have hpos : Nat.gcd (thl n p).length (n / (thl n p).length) = 1 → 0 < (SL.filter (cpb n p)).length := fun hg => by
    rw [ep] at hg
    obtain ⟨q, hq, hc⟩ := G.schur hn hp hg
    exact List.length_pos_of_mem (List.mem_filter.2 ⟨hS.all q hq, hc⟩)
  have hg0 : 0 < Nat.gcd (thl n p).length (n / (thl n p).length) := Nat.gcd_pos_of_pos_left _ (by omega)
  have hqd := Nat.div_le_self n (thl n p).length
  have htd : Int.tdiv ((n : Nat) : Int) ((thl n p).length : Int) = ((n / (thl n p).length : Nat) : Int) := rfl
  refine fnc_of tab_ok Tryd.func6 rfl (by kernel_rfl) (by rw [Tryd.ntmps6]; exact Nat.le_add_left 2 _) ?_; rw [Tryd.ntmps6]
  refine qm ?_
  refine hk_region fun K hK => runs_eval tab_ok ?_
  simp only [ev0, evA, evB, evP, fl, gp, tab, simprocAttr, reduceCtorEq, reduceIte]
  refine fin_run ?_ (hK _ ?_) <;> clear hK <;> clear K
  · (first | exact trivial | omega | (simp only [In64] at *; omega) | (simp [In64] at *; omega) | (simp_all; done) | skip)
  refine qa (qm ?_)
  refine hk_draw2 mixed fun K hK => runs2_eval tab_ok ?_
  simp only [evD, ev0, evA, evB, evP, fl, gp, tab, simprocAttr, reduceCtorEq, reduceIte]
  refine fin2_stop trivial (runs2_call (ownGroup_c n m (by omega)) rfl rfl rfl rfl (by simp only [dstOk, Nat.reduceLT]) (by repeat (first | exact trivial | constructor)) (runs2_eval tab_ok ?_))
  simp only [evD, ev0, evA, evB, evP, fl, gp, tab, simprocAttr, reduceCtorEq, reduceIte]
  refine fin2_stop trivial (runs2_call (own_c (thl n p) (by omega)) rfl rfl rfl rfl (by simp only [dstOk, Nat.reduceLT]) (by repeat (first | exact trivial | constructor)) (runs2_eval tab_ok ?_))
  simp only [evD, ev0, evA, evB, evP, fl, gp, tab, simprocAttr, reduceCtorEq, reduceIte]
  refine fin2_stop trivial (runs2_call (compl_ok h hn hS hp hN) rfl rfl rfl rfl (by simp only [dstOk, Nat.reduceLT]) (by repeat (first | exact trivial | constructor)) (runs2_eval tab_ok ?_))
  simp only [evD, ev0, evA, evB, evP, fl, gp, tab, simprocAttr, reduceCtorEq, reduceIte]
  refine fin2_run ?_ (hK _ _ (by first | kernel_rfl | rfl) ?_) <;> clear hK <;> clear K
  · (first | exact trivial | omega | (simp only [In64] at *; omega) | (simp [In64] at *; omega) | (simp_all; done) | skip)
  refine qa (qm ?_)
  refine hk_region fun K hK => runs_eval tab_ok ?_
  simp only [ev0, evA, evB, evP, fl, gp, tab, simprocAttr, reduceCtorEq, reduceIte]
  refine fin_stop trivial (runs_call (normalFault_ok h p hp true (by simp [hN])) rfl rfl rfl (by simp only [dstOk, Nat.reduceLT]) (by repeat (first | exact trivial | constructor)) (runs_eval tab_ok ?_))
  simp only [ev0, evA, evB, evP, fl, gp, tab, simprocAttr, reduceCtorEq, reduceIte]
  refine fin_run ?_ (hK _ ?_) <;> clear hK <;> clear K
  · (first | exact trivial | omega | (simp only [In64] at *; omega) | (simp [In64] at *; omega) | (simp_all; done) | skip)
  refine qa (qm (qm ?_))
  refine hk_region fun K hK => runs_eval tab_ok ?_
  simp only [ev0, evA, evB, evP, fl, gp, tab, simprocAttr, reduceCtorEq, reduceIte, nfb_t, decide_eq_false (show ¬ ((n : Nat) : Int) > 24 by omega)]
  refine fin_run ?_ (hK _ ?_) <;> clear hK <;> clear K
  · (first | exact trivial | omega | (simp only [In64] at *; omega) | (simp [In64] at *; omega) | (simp_all; done) | skip)
  refine qa ?_
  refine hk_cond rfl (fun hC1 => ?_) (fun hC1 => ?_)
  · cases hC1
  · (try simp only [nhs] at hC1)
    refine qh (qa (qm (qm ?_)))
    refine hk_freeze 0 rfl rfl ?_
    refine hk_freeze 1 rfl rfl ?_
    simp only [hset]
    refine hk_region fun K hK => runs_eval tab_ok ?_
    simp only [ev0, evA, evB, evP, fl, gp, tab, simprocAttr, reduceCtorEq, reduceIte]
    refine fin_stop trivial (runs_call (prodBegun_c) rfl rfl rfl (by simp only [dstOk, Nat.reduceLT]) (by repeat (first | exact trivial | constructor)) (runs_eval tab_ok ?_))
    simp only [ev0, evA, evB, evP, fl, gp, tab, simprocAttr, reduceCtorEq, reduceIte]
    refine fin_stop trivial (runs_call (listsAs_B (sll (SL.filter (cpb n p))) (0, 0) _ _ (by omega) hrows (fun h => absurd rfl h) (fun _ => compl1_c h hn hS hp hN)) rfl rfl rfl (by simp only [dstOk, Nat.reduceLT]) (by repeat (first | exact trivial | constructor)) (runs_eval tab_ok ?_))
    simp only [ev0, evA, evB, evP, fl, gp, tab, simprocAttr, reduceCtorEq, reduceIte]
    refine fin_run ?_ (hK _ ?_) <;> clear hK <;> clear K
    · (first | exact trivial | omega | (simp only [In64] at *; omega) | (simp [In64] at *; omega) | (simp_all; done) | skip)
    refine qa ?_
    refine hk_cond rfl (fun hC2 => ?_) (fun hC2 => ?_)
    · cases hC2
    · (try simp only [nhs] at hC2)
      refine qh (qa (qm ?_))
      by_cases k1 : Nat.gcd (thl n p).length (n / (thl n p).length) = 1
      · refine hk_draw mixed (by kernel_rfl) fun K hK => runs_eval tab_ok ?_
        simp only [ev0, evA, evB, evP, fl, gp, tab, simprocAttr, reduceCtorEq, reduceIte, il_length, ll_length, hsl, htd, decide_eq_false (show ¬ ((Nat.gcd (thl n p).length (n / (thl n p).length) : Nat) : Int) > 1 by omega), decide_eq_true (show ((SL.filter (cpb n p)).length : Int) > 0 by have := hpos k1; omega)]
        refine fin_stop ?_ (runs_call (gcd_c (thl n p).length (n / (thl n p).length)) rfl rfl rfl (by simp only [dstOk, Nat.reduceLT]) (by repeat (first | exact trivial | constructor)) (runs_eval tab_ok ?_))
        · first | exact ⟨by omega, by have hq1 := hqd; generalize n / (thl n p).length = qd at hq1 ⊢; simp only [In64]; omega⟩ | exact trivial | (simp only [In64]; omega)
        simp only [ev0, evA, evB, evP, fl, gp, tab, simprocAttr, reduceCtorEq, reduceIte, il_length, ll_length, hsl, htd, decide_eq_false (show ¬ ((Nat.gcd (thl n p).length (n / (thl n p).length) : Nat) : Int) > 1 by omega), decide_eq_true (show ((SL.filter (cpb n p)).length : Int) > 0 by have := hpos k1; omega)]
        refine fin_run ?_ (hK _ ?_) <;> clear hK <;> clear K
        · (first | exact trivial | omega | (simp only [In64] at *; omega) | (simp [In64] at *; omega) | (simp_all; done) | skip)
        refine qa (qk ?_)
        simp only [Tryd.results6, enA, ev0, evA, evB, evP, fl, gp, tab, simprocAttr, reduceCtorEq, reduceIte]
        all_goals (rfl)
      · refine hk_draw mixed (by kernel_rfl) fun K hK => runs_eval tab_ok ?_
        simp only [ev0, evA, evB, evP, fl, gp, tab, simprocAttr, reduceCtorEq, reduceIte, il_length, ll_length, hsl, htd, decide_eq_true (show ((Nat.gcd (thl n p).length (n / (thl n p).length) : Nat) : Int) > 1 by omega)]
        refine fin_stop ?_ (runs_call (gcd_c (thl n p).length (n / (thl n p).length)) rfl rfl rfl (by simp only [dstOk, Nat.reduceLT]) (by repeat (first | exact trivial | constructor)) (runs_eval tab_ok ?_))
        · first | exact ⟨by omega, by have hq1 := hqd; generalize n / (thl n p).length = qd at hq1 ⊢; simp only [In64]; omega⟩ | exact trivial | (simp only [In64]; omega)
        simp only [ev0, evA, evB, evP, fl, gp, tab, simprocAttr, reduceCtorEq, reduceIte, il_length, ll_length, hsl, htd, decide_eq_true (show ((Nat.gcd (thl n p).length (n / (thl n p).length) : Nat) : Int) > 1 by omega)]
        refine fin_run ?_ (hK _ ?_) <;> clear hK <;> clear K
        · (first | exact trivial | omega | (simp only [In64] at *; omega) | (simp [In64] at *; omega) | (simp_all; done) | skip)
        refine qa (qk ?_)
        simp only [Tryd.results6, enA, ev0, evA, evB, evP, fl, gp, tab, simprocAttr, reduceCtorEq, reduceIte]
        all_goals (rfl)
theorem lawCpl_c (N : Int) (m l : List Int) (hm : m.length ≤ 17592186043904) (hl : l.length ≤ 17592186043904) : FnC Tryd.prog 6 [gp N m, .list (il l)] (.bool true) := by
  rcases sub3 N m l with ⟨n, e, p, h, rfl, rfl, hsub⟩ | ⟨n, e, p, h, rfl, rfl, hsub⟩ | hf
  · by_cases hN : Nml n (op m n) e p
    · by_cases hn : n ≤ 24
      · exact lawCpl_ok h hn hsub hN
      · exact lawCpl_big h hn hsub hN
    · exact lawCpl_w n m (thl n p) (4, 0) hm hl (by simp) (compl_non h hsub hN) (normalFault_ok h p hsub false (by simp [hN]))
  · exact lawCpl_w n m (thl n p) (7, 0) hm hl (by simp) (compl_w n m (thl n p) (7, 0) (group_ok h p false (by simp [hsub])) (by simp)) (normalFault_w n m (thl n p) (7, 0) (subFault_ok h p false (by simp [hsub])) (by simp))
  · exact lawCpl_w N m l (sf N m l) hm hl hf (compl_w N m l (sf N m l) (group_no N m l (by omega) (by omega) hf) hf) (normalFault_w N m l (sf N m l) (subFault_no N m l (by omega) (by omega) hf) hf)
end
end Go.Proofs.YtjikchbmkodgfaaDoor

/-
  What the listed package-level variable gives a walk: a table of numbers. Conditions: none; written by a program of this repo.
-/
set_option linter.all false
namespace Go.Proofs.YtjikchbmkodgfaaDoor
open Go.Pv Go.ChangeShapes Go.WideShapes Go.ChangeAt Go.WideElems Go.RowKit

theorem own : ownKnob Tryd.prog.godebug = none := by kernel_rfl
theorem laidOut : laidOutB Tryd.prog = true := by kernel_rfl
theorem gG : Tryd.prog.globalNamed "math/bits.deBruijn64tab" = some 0 := by kernel_rfl
theorem tG : (Tryd.prog.globals[0]?).map (·.type) = some 105 := by kernel_rfl
theorem cG : Tryd.prog.cellsOf 5 = 1 := by kernel_rfl
/-- The door's own heap meets the condition. -/
theorem door_met (os : Os) (args : Array Value) : laidMetH Tryd.prog [("math/bits.deBruijn64tab", Rows.laid_math_bits_deBruijn64tab)] ((World.doorLaid Tryd.prog 4000 os).forCall (fun _ _ => 0) ⟨#[], args, []⟩).memory :=
  laidMetH_of_parts3 (fuel := 8) (laidMet_of_run' 8 (by kernel_rfl) (by kernel_rfl)) (by kernel_rfl) (by kernel_rfl)

def convD : DataW Unit → PV
  | .lit (.int k n) => .int k n
  | _ => .nil
def datum : List (DataW Unit) → List PV := List.map convD
theorem glob_datum : (match (Rows.laid_math_bits_deBruijn64tab : DataW Unit) with | .agg l => datum l | _ => []) = glob0 := rfl

theorem laid_ok {W : World} (h : laidMetH Tryd.prog [("math/bits.deBruijn64tab", Rows.laid_math_bits_deBruijn64tab)] W) : LaidW (fun b => b < W.heap.size) W := by
  refine ⟨fun b h => h, fun g l hg => ?_⟩
  have hg2 : g = 0 ∧ l = glob0 := by
    unfold gv at hg
    by_cases e : g = 0
    · subst e; exact ⟨rfl, (Option.some.inj hg).symm⟩
    · have : (g == 0) = false := by simpa using e
      rw [this] at hg; simp at hg
  obtain ⟨rfl, rfl⟩ := hg2
  rw [MakeChecks.laidMetH_plain _ _ _ (by kernel_rfl)] at h
  obtain ⟨ps, ⟨g0, t0, cs0, f0, p0, q0, hg0, ht0, hv0, hd0, _, _⟩, _, _⟩ := h
  obtain rfl := Option.some.inj (gG.symm.trans hg0)
  obtain rfl := Option.some.inj (tG.symm.trans ht0)
  obtain ⟨xs, m1, rfl, hx1, hlen, hn3, hel⟩ := DataW.trod_array Tryd.underlying105 hd0
  have hd1 : Rows.laid_math_bits_deBruijn64tab = DataW.agg (xs.map (·.1)) := congrArg Prod.fst hx1
  have hgl : glob0 = datum (xs.map (·.1)) := by
    rw [← glob_datum, hd1]
  have key : ∀ c (h : c < glob0.length), W.cell? ⟨0, 0 + c, none⟩ = some ((cs0[c]?).getD undef) ∧ Reads (fun b => b < W.heap.size) W glob0[c] ((cs0[c]?).getD undef) := by
    intro c hc
    have hc2 : c < 64 := Nat.lt_of_lt_of_le hc (by decide)
    have hcx : c < xs.length := by omega
    have h1 := hel c hc2
    rw [List.getElem?_eq_getElem hcx] at h1
    obtain ⟨k, e1, e2, _⟩ := DataW.trod_int Tryd.underlying5 h1
    rw [cG] at e1
    have e3 : cs0.toList[c]? = some (.int .u8 k) := by
      have := congrArg (fun l => l[0]?) e1
      simpa [List.getElem?_take, List.getElem?_drop] using this
    have e4 : cs0[c]? = some (.int .u8 k) := by simpa using e3
    have e5 : glob0[c] = .int .u8 k := by
      have : glob0[c]? = (datum (xs.map (·.1)))[c]? := by rw [hgl]
      rw [List.getElem?_eq_getElem hc] at this
      simp only [datum, List.getElem?_map, List.getElem?_eq_getElem hcx, Option.map_some, Option.some.injEq] at this
      exact this.trans (by rw [e2]; rfl)
    refine ⟨?_, ?_⟩
    · rw [e4, Nat.zero_add, World.var?_cell gG hv0 c, e4]; rfl
    · rw [e4]
      exact e5 ▸ (Reads.int .u8 k)
  refine .ptr _ _ _ (fun c => (cs0[c]?).getD undef) ?_ (fun c hc => (key c hc).1) fun c hc => (key c hc).2
  have := (key 0 (by decide)).1
  unfold World.cell? at this
  rcases Nat.lt_or_ge 0 W.heap.size with h | h
  · exact h
  · exfalso
    rw [Array.getElem?_eq_none h] at this
    simp at this
end Go.Proofs.YtjikchbmkodgfaaDoor
