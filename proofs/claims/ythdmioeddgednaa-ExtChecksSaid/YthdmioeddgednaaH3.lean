/-
  Walks: rows of yes and no; the ring of so many things. Conditions: none.
-/
import Derived.Test.YthdmioeddgednaaH2
set_option linter.all false
namespace Go.Proofs.Ythdmioeddgednaa
open Go.Pv

/-- A row of yes and no. -/
def hbl (n : Nat) (g : Nat → Bool) : List PV := (List.range n).map fun i => .bool (g i)
theorem hbl_len (n : Nat) (g : Nat → Bool) : (hbl n g).length = n := by simp [hbl]
theorem hbl_get {n : Nat} {g : Nat → Bool} {i : Nat} (h : i < n) : (hbl n g).getD i default = .bool (g i) := by
  simp [hbl, List.getD, List.getElem?_eq_getElem, h]
theorem hbl_all (n : Nat) (g : Nat → Bool) : (hbl n g).all PV.one = true := by simp [hbl, PV.one]

def ixb (n : Nat) (g : Nat → Bool) : Int := match fst' (fun i => !g i) n with | some i => (i : Int) | none => -1
theorem ixb_iff (n : Nat) (g : Nat → Bool) : ixb n g ≥ 0 ↔ ∃ i, i < n ∧ g i = false := by
  unfold ixb
  cases h : fst' (fun i => !g i) n with
  | none =>
    constructor
    · intro h; simp at h
    · rintro ⟨i, hi, e⟩
      have := fst_spec0 h i hi
      rw [e] at this; simp at this
  | some i =>
    obtain ⟨h1, h2, _⟩ := fst_spec h
    exact ⟨fun _ => ⟨i, h1, by simpa using h2⟩, fun _ => by simp⟩

end Go.Proofs.Ythdmioeddgednaa
