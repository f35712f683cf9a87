/-
  Semidirect products: the fault, and what no fault says. Conditions: none.
-/
import Derived.Test.YtdibogabmbnmnaaH4
set_option linter.all false
namespace Go.Proofs.Ytdibogabmbnmnaa
open Go.Pv

/-- The code of a row's fault: a map of the group to itself that is one to one. -/
def rwc (N : Int) (m l : List Int) : Int := if ¬ (homf N m N m l).1 = 0 then (homf N m N m l).1 else if ¬ onto1 l N.toNat then 10 else 0
def mgd (m' : List Int) (n' : Nat) (ls : List (List Int)) (x : Nat) : Prop := ∀ y, y < n' → ls.getD (op m' n' x y) [] = cmpl (ls.getD y []) (ls.getD x [])
instance (m' : List Int) (n' : Nat) (ls : List (List Int)) (x : Nat) : Decidable (mgd m' n' ls x) := by unfold mgd; infer_instance
def psf2 (m' : List Int) (ls : List (List Int)) (n n' : Nat) : Int × Int :=
  match fst' (fun x => decide (¬ mgd m' n' ls x)) n' with
  | some x => (7, (x : Int))
  | none => if n * n' > 60 then (9, 0) else (0, 0)
/-- THE FAULT of a group that acts on a group. -/
def psf (N : Int) (m : List Int) (N' : Int) (m' : List Int) (ls : List (List Int)) : Int × Int :=
  if ¬ (tg N m N' m').1 = 0 then tg N m N' m'
  else if ¬ (ls.length : Int) = N' then (8, 0)
  else match fst' (fun i => decide (¬ rwc N m (ls.getD i []) = 0)) ls.length with
    | some i => (rwc N m (ls.getD i []), (i : Int))
    | none => psf2 m' ls N.toNat N'.toNat

section
variable {N N' : Int} {m m' : List Int} {ls : List (List Int)} {n n' : Nat}
theorem psf_tg (h : ¬ (tg N m N' m').1 = 0) : psf N m N' m' ls = tg N m N' m' := by unfold psf; rw [if_pos h]
theorem psf_8 (h : (tg N m N' m').1 = 0) (h2 : ¬ (ls.length : Int) = N') : psf N m N' m' ls = (8, 0) := by unfold psf; rw [if_neg (by simpa using h), if_pos h2]
theorem psf_row (h : (tg N m N' m').1 = 0) (h2 : (ls.length : Int) = N') {i : Nat} (hi : i < ls.length) (hb : ¬ rwc N m (ls.getD i []) = 0) (hj : ∀ j, j < i → rwc N m (ls.getD j []) = 0) : psf N m N' m' ls = (rwc N m (ls.getD i []), (i : Int)) := by
  have e : fst' (fun i => decide (¬ rwc N m (ls.getD i []) = 0)) ls.length = some i := fst_some hi (decide_eq_true hb) fun j h => decide_eq_false fun h' => h' (hj j h)
  unfold psf; rw [if_neg (by simpa using h), if_neg (by simpa using h2), e]
theorem psf_2 (h : (tg n m n' m').1 = 0) (h2 : (ls.length : Int) = n') (hj : ∀ j, j < ls.length → rwc n m (ls.getD j []) = 0) : psf n m n' m' ls = psf2 m' ls n n' := by
  have e : fst' (fun i => decide (¬ rwc n m (ls.getD i []) = 0)) ls.length = none := fst_none fun j h => decide_eq_false fun h' => h' (hj j h)
  unfold psf; rw [if_neg (by simpa using h), if_neg (by simpa using h2), e]
  rfl
theorem psf2_7 {x : Nat} (hx : x < n') (hn : ¬ mgd m' n' ls x) (hj : ∀ j, j < x → mgd m' n' ls j) : psf2 m' ls n n' = (7, (x : Int)) := by
  have e : fst' (fun x => decide (¬ mgd m' n' ls x)) n' = some x := fst_some hx (decide_eq_true hn) fun j h => decide_eq_false fun h' => h' (hj j h)
  unfold psf2; rw [e]
theorem psf2_n (hj : ∀ j, j < n' → mgd m' n' ls j) : psf2 m' ls n n' = if n * n' > 60 then (9, 0) else (0, 0) := by
  have e : fst' (fun x => decide (¬ mgd m' n' ls x)) n' = none := fst_none fun j h => decide_eq_false fun h' => h' (hj j h)
  unfold psf2; rw [e]
theorem rwc_ok {l : List Int} (h : rwc n m l = 0) : Hom m m l n n ∧ onto1 l n := by
  unfold rwc at h
  by_cases h1 : (homf n m n m l).1 = 0
  · rw [if_neg (by simpa using h1)] at h
    by_cases h2 : onto1 l (n : Int).toNat
    · obtain ⟨a, e, a', e', g, g', hh, _⟩ := homf_ok h1
      have q1 := g.1
      have q2 := g'.1
      obtain rfl : a = n := by omega
      obtain rfl : a' = a := by omega
      exact ⟨hh, h2⟩
    · rw [if_pos h2] at h; simp at h
  · rw [if_pos h1] at h; exact absurd h h1

/-- What acts, as a rule. -/
def alp (ls : List (List Int)) (x i : Nat) : Nat := hv (ls.getD x []) i
theorem acts_of (hl : ls.length = n') (hr : ∀ j, j < n' → rwc n m (ls.getD j []) = 0) (hm : ∀ j, j < n' → mgd m' n' ls j) (T : Tab n m) : Acts n n' (op m n) (op m' n') (alp ls) := by
  refine ⟨fun x i hx hi => ((rwc_ok (hr x hx)).1.2.1 i hi).2, fun x i j hx hi hj => ((rwc_ok (hr x hx)).1.2.2 i hi j hj).symm, fun x i hx hi => ?_, fun x y i hx hy hi => ?_⟩
  · obtain ⟨⟨h1, h2, _⟩, h4, _⟩ := rwc_ok (hr x hx)
    obtain ⟨j, hj, e⟩ := List.getElem_of_mem (h4 i hi)
    refine ⟨j, by omega, ?_⟩
    unfold alp hv
    clear h2
    generalize ls.getD x [] = p at *
    simp [List.getD, List.getElem?_eq_getElem hj, e]
  · obtain ⟨⟨h1, h2, _⟩, _⟩ := rwc_ok (hr y hy)
    have e := hm x hx y hy
    unfold alp
    rw [e]
    unfold hv cmpl
    have hiy : i < (ls.getD y []).length := by omega
    clear h2 e
    generalize ls.getD x [] = p at *
    generalize ls.getD y [] = q at *
    simp only [List.getD, List.getElem?_map, List.getElem?_eq_getElem hiy, Option.map_some, Option.getD_some]
end
end Go.Proofs.Ytdibogabmbnmnaa
