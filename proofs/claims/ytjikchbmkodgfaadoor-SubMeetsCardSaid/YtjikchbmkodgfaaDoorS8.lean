/-
  Classes: where things stand; powers of classes; pairs that commute. Conditions: none.
-/
import Derived.Test.YtjikchbmkodgfaaDoorS7
import Derived.Test.YtjikchbmkodgfaaDoorG15
set_option linter.all false
namespace Go.Proofs.YtjikchbmkodgfaaDoor
open Go.Pv

theorem cst_row {n : Nat} {r : Nat → Nat → Bool} : ∀ w ∈ cst n r, w.length ≤ n := fun w hw => by
  unfold cst cstp at hw
  obtain ⟨x, _, rfl⟩ := List.mem_map.1 hw
  exact thl_le _ _
theorem cst_len (n : Nat) (r : Nat → Nat → Bool) : (cst n r).length = (mem n (lead r)).length := by
  unfold cst cstp mem
  rw [List.length_map]

/-- The place of the first list that has a thing; -1: none has. -/
def wch (l : List (List Int)) (x : Int) : Int := match fst' (fun i => decide (x ∈ l.getD i [])) l.length with | some i => (i : Int) | none => -1

/-- A row by a rule. -/
def rgz (n : Nat) (g : Nat → Int) : List Int := (List.range n).map g
theorem rgz_len (n : Nat) (g : Nat → Int) : (rgz n g).length = n := by simp [rgz]
theorem rgz_get {n : Nat} {g : Nat → Int} {a : Nat} (ha : a < n) : (rgz n g).getD a 0 = g a := by
  simp [rgz, List.getD, List.getElem?_map, List.getElem?_range ha]
theorem rgz_congr {n : Nat} {g g' : Nat → Int} (h : ∀ a, a < n → g a = g' a) : rgz n g = rgz n g' := List.map_congr_left fun a ha => h a (List.mem_range.1 ha)
theorem rgz_set (n : Nat) (g : Nat → Int) (c : Nat) (x : Int) : (rgz n g).set c x = rgz n fun a => if a = c then x else g a := by
  refine List.ext_getElem (by simp [rgz]) fun i h1 h2 => ?_
  rw [List.getElem_set]
  by_cases e : c = i
  · subst e; simp [rgz]
  · rw [if_neg e]
    simp [rgz, Ne.symm e]
theorem rgz_new (n : Nat) : List.replicate n (AV.p (.int .i64 0)) = ol (rgz n fun _ => 0) := by
  refine List.ext_getElem (by simp [ol, il, rgz]) fun i h1 h2 => ?_
  simp [ol, il, rgz]

/-- Where each thing's class stands. -/
def whl (n : Nat) (r : Nat → Nat → Bool) : List Int := rgz n fun a => wch (cst n r) a

theorem cst_apart {n : Nat} {r : Nat → Nat → Bool} (h : Eqv n r) {i j a : Nat} (hi : i < (cst n r).length) (hj : j < (cst n r).length) (ha : a < n) (h1 : ((a : Nat) : Int) ∈ (cst n r).getD i []) (h2 : ((a : Nat) : Int) ∈ (cst n r).getD j []) : i = j := by
  obtain ⟨x, x1, x2, x3, x4⟩ := cst_get hi
  obtain ⟨y, y1, y2, y3, y4⟩ := cst_get hj
  rw [x3, mem_thl_n ha] at h1
  rw [y3, mem_thl_n ha] at h2
  have hxy : x = y := h.lead_eq x1 y1 x2 y2 (h.trans x a y x1 ha y1 h1 (h.symm y a y1 ha h2))
  subst hxy
  have hn : (mem n (lead r)).Nodup := List.nodup_range.filter _
  have hl := cst_len n r
  exact at_inj hn (by omega) (by omega) (x4.trans y4.symm)
theorem cst_in {n : Nat} {r : Nat → Nat → Bool} (h : Eqv n r) {a : Nat} (ha : a < n) : ∃ i, i < (cst n r).length ∧ ((a : Nat) : Int) ∈ (cst n r).getD i [] := by
  obtain ⟨x, x1, x2, x3⟩ := h.least ha
  obtain ⟨i, hi, e⟩ := List.getElem_of_mem (mem_mem.2 ⟨x1, x2⟩ : x ∈ mem n (lead r))
  have hl := cst_len n r
  refine ⟨i, by omega, ?_⟩
  obtain ⟨y, y1, y2, y3, y4⟩ := cst_get (n := n) (r := r) (i := i) (by omega)
  rw [y3, mem_thl_n ha]
  have : y = x := by rw [← y4]; simp [List.getD, List.getElem?_eq_getElem hi, e]
  rw [this]; exact x3
theorem wch_at {n : Nat} {r : Nat → Nat → Bool} (h : Eqv n r) {i a : Nat} (hi : i < (cst n r).length) (ha : a < n) (h1 : ((a : Nat) : Int) ∈ (cst n r).getD i []) : wch (cst n r) a = (i : Int) := by
  have e : fst' (fun k => decide (((a : Nat) : Int) ∈ (cst n r).getD k [])) (cst n r).length = some i := fst_some hi (decide_eq_true h1) fun j hj => decide_eq_false fun h2 => by
    have := cst_apart h hi (by omega) ha h1 h2
    omega
  simp only [wch, e]

end Go.Proofs.YtjikchbmkodgfaaDoor
