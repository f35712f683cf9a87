/-
  What reads as one value reads as another. Conditions: none.
-/
import Derived.Test.YtjikchbmkodgfaaDoorG1
import Derived.Test.YtjikchbmkodgfaaDoorPvT
set_option linter.all false
namespace Go.Proofs.YtjikchbmkodgfaaDoor
open Go.Pv

/-! ### What reads as one reads as another -/

def Rle (a b : PV) : Prop := ∀ (ok : Nat → Prop) (w : World) (v : Value), Reads ok w a v → Reads ok w b v
theorem Rle.rfl {a : PV} : Rle a a := fun _ _ _ h => h
theorem Rle.nn {l : List PV} : Rle (.nn l) (.list l) := fun _ _ _ h => h.nn_list
theorem Rle.agg2 {a b a' b' : PV} (h1 : Rle a a') (h2 : Rle b b') : Rle (.agg [a, b]) (.agg [a', b']) := fun ok w v h => by
  cases h with
  | agg _ vs hl hr =>
    refine .agg _ vs hl fun c hc => ?_
    match c, hc with
    | 0, _ => exact h1 _ _ _ (hr 0 (by simp))
    | 1, _ => exact h2 _ _ _ (hr 1 (by simp))
def Rles : List PV → List PV → Prop
  | [], [] => True
  | a :: r, b :: s => Rle a b ∧ Rles r s
  | _, _ => False
theorem Rles.len : ∀ {l r : List PV}, Rles l r → l.length = r.length
  | [], [], _ => by rfl
  | a :: l, b :: r, h => by simp [Rles.len h.2]
  | [], _ :: _, h => h.elim
  | _ :: _, [], h => h.elim
theorem Rles.get : ∀ {l r : List PV}, Rles l r → ∀ (i : Nat) (h : i < l.length) (h' : i < r.length), Rle l[i] r[i]
  | a :: l, b :: r, h, 0, _, _ => h.1
  | a :: l, b :: r, h, i + 1, h1, h2 => by simpa using Rles.get h.2 i (by simpa using h1) (by simpa using h2)
  | [], [], _, i, h, _ => by simp at h
  | [], _ :: _, h, _, _, _ => h.elim
  | _ :: _, [], h, _, _, _ => h.elim
theorem FnC.weak {P : Program} {f : FuncId} {args args' : List PV} {r : PV} (h : FnC P f args r) (hs : Rles args' args) : FnC P f args' r := by
  refine ⟨h.1, fun okA w vals h1 h2 h3 => h.2 okA w vals h1 (h2.trans hs.len) fun i hi => ?_⟩
  have := hs.len
  exact hs.get i (by omega) hi _ _ _ (h3 i (by omega))

theorem Rle.nn2 {a b : List PV} : Rle (.nn [.nn a, .nn b]) (.list [.list a, .list b]) := fun ok w v h => by
  cases h with
  | nn _ k off sz vs hb hsz hc hr =>
    refine .list [.list a, .list b] k off 2 1 vs hb (by simp [PV.cells]) (by simp) (fun c hc' => hc c (by simpa [flat, PV.cells] using hc')) fun c hcl => ?_
    have h0 := hr 0 (by simp [flat, PV.cells])
    have h1 := hr 1 (by simp [flat, PV.cells])
    match c, hcl with
    | 0, _ => exact Reads.nn_list h0
    | 1, _ => exact Reads.nn_list h1
end Go.Proofs.YtjikchbmkodgfaaDoor
