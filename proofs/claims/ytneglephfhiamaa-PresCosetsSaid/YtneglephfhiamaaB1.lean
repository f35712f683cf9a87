/-
  Texts of this proof, one behind the other: what each says stands at its head. Conditions: none.
-/
import Derived.WalkKit

set_option linter.all false
namespace Go.Pv
open Go.RowKit
def mxl : Nat := 64 * 9223372036854775807
theorem le_mxl {n : Nat} (h : n ≤ Go.maxLen) : n ≤ mxl := by unfold mxl; unfold Go.maxLen at h; omega
inductive PV where
  | int (k : IntKind) (i : Int)
  | bool (b : Bool)
  | str (s : ByteArray)
  | list (l : List PV) 
  | nn (l : List PV) 
  | nil
  | nz 
  | np 
  | agg (l : List PV)
  | tup (l : List PV)
  | ptr (l : List PV)
  | fn (f : FuncId) (cap : List PV)
instance : Inhabited PV := ⟨.int .i64 0⟩
def PV.cells : PV → List PV
  | .agg l => l
  | v => [v]
def flat : List PV → List PV
  | [] => []
  | x :: r => x.cells ++ flat r
def PV.one : PV → Bool
  | .agg _ => false
  | .tup _ => false
  | _ => true
theorem flat_one : ∀ (l : List PV), (∀ x ∈ l, x.one = true) → flat l = l
  | [], _ => rfl
  | x :: r, h => by
    have h1 := h x (by simp)
    have h2 := flat_one r (fun y hy => h y (by simp [hy]))
    cases x <;> simp_all [flat, PV.cells, PV.one]
theorem flat_length_eq (sz : Nat) : ∀ (l : List PV), (∀ x ∈ l, x.cells.length = sz) → (flat l).length = l.length * sz
  | [], _ => by simp [flat]
  | x :: r, h => by
    have h1 := h x (by simp)
    have h2 := flat_length_eq sz r (fun y hy => h y (by simp [hy]))
    simp [flat, h1, h2, Nat.add_mul, Nat.add_comm]
theorem flat_getElem? (sz : Nat) : ∀ (l : List PV) (i c : Nat) (x : PV), (∀ x ∈ l, x.cells.length = sz) → l[i]? = some x → c < sz → (flat l)[i * sz + c]? = x.cells[c]?
  | [], i, c, x, _, hx, _ => by simp at hx
  | y :: r, 0, c, x, h, hx, hc => by
    simp at hx; subst hx
    have h1 := h y (by simp)
    simp [flat, List.getElem?_append, h1, hc]
  | y :: r, i + 1, c, x, h, hx, hc => by
    have h1 := h y (by simp)
    have h2 := flat_getElem? sz r i c x (fun y hy => h y (by simp [hy])) (by simpa using hx) hc
    have e : (i + 1) * sz + c = sz + (i * sz + c) := by rw [Nat.add_mul]; omega
    simp only [flat]
    rw [e, List.getElem?_append_right (by omega), h1]
    simpa using h2
def keyM : Int := 1099511627776
def keyV (k : IntKind) (z : Int) : Value := if k = .i8 then .agg #[.int .i64 (z / keyM), .int .i64 (z % keyM)] else .int k z
theorem keyV_int {k : IntKind} (h : k ≠ .i8) (z : Int) : keyV k z = .int k z := if_neg h
theorem keyV_two (z : Int) : keyV .i8 z = .agg #[.int .i64 (z / keyM), .int .i64 (z % keyM)] := if_pos rfl
theorem keyM_div {a b : Int} (h0 : 0 ≤ b) (h1 : b < keyM) : (a * keyM + b) / keyM = a := by
  unfold keyM at *; omega
theorem keyM_mod {a b : Int} (h0 : 0 ≤ b) (h1 : b < keyM) : (a * keyM + b) % keyM = b := by
  unfold keyM at *; omega
theorem keyV_mk {a b : Int} (h0 : 0 ≤ b) (h1 : b < keyM) : keyV .i8 (a * keyM + b) = .agg #[.int .i64 a, .int .i64 b] := by
  rw [keyV_two, keyM_div h0 h1, keyM_mod h0 h1]
theorem keyV_inj {k : IntKind} {y z : Int} (h : keyV k y = keyV k z) : y = z := by
  by_cases hk : k = .i8
  · subst hk
    rw [keyV_two, keyV_two] at h
    injection h with h
    injection h with h
    injection h with h1 h2
    injection h1 with _ h1
    injection h2 with h2 _
    injection h2 with _ h2
    have e1 := Int.mul_ediv_add_emod y keyM
    have e2 := Int.mul_ediv_add_emod z keyM
    rw [h1, h2] at e1
    exact e1.symm.trans e2
  · rw [keyV_int hk, keyV_int hk] at h
    injection h
def keyIs (k : IntKind) (z : Int) : Value → Bool
  | .int k' y => decide (k ≠ .i8) && (decide (k' = k) && decide (y = z))
  | .agg xs => match xs.toList with
    | [.int .i64 a, .int .i64 b] => decide (k = .i8) && (decide (a = z / keyM) && decide (b = z % keyM))
    | _ => false
  | _ => false
theorem keyIs_iff {k : IntKind} {z : Int} {v : Value} : keyIs k z v = true ↔ v = keyV k z := by
  by_cases hk : k = .i8
  · subst hk
    rw [keyV_two]
    cases v with
    | agg xs =>
      obtain ⟨l⟩ := xs
      constructor
      · intro h
        unfold keyIs at h
        simp only at h
        split at h
        · simp at h
          rw [h.1, h.2]
        · cases h
      · intro h
        rw [h]
        unfold keyIs
        simp
    | _ => simp [keyIs]
  · rw [keyV_int hk]
    cases v with
    | agg xs =>
      unfold keyIs
      simp only [hk, decide_false, Bool.false_and]
      split <;> simp
    | _ => simp [keyIs, hk]
def mlk (k : IntKind) (z : Int) : List MapEntry → Option Value
  | [] => none
  | e :: es => bif keyIs k z e.key then some e.val else mlk k z es
theorem mlk_pos {k : IntKind} {z : Int} {e : MapEntry} (es : List MapEntry) (h : e.key = keyV k z) : mlk k z (e :: es) = some e.val := by simp only [mlk, keyIs_iff.2 h, cond_true]
theorem mlk_neg {k : IntKind} {z : Int} {e : MapEntry} (es : List MapEntry) (h : e.key ≠ keyV k z) : mlk k z (e :: es) = mlk k z es := by
  have : keyIs k z e.key = false := by
    cases h' : keyIs k z e.key with
    | false => rfl
    | true => exact absurd (keyIs_iff.1 h') h
  simp only [mlk, this, cond_false]
inductive Reads (ok : Nat → Prop) (w : World) : PV → Value → Prop
  | int (k : IntKind) (i : Int) : Reads ok w (.int k i) (.int k i)
  | bool (b : Bool) : Reads ok w (.bool b) (.bool b)
  | str (s : ByteArray) : Reads ok w (.str s) (.string s)
  | nil : Reads ok w .nil (.slice none 0 0)
  | nz (a : Addr) (cap : Nat) : Reads ok w .nz (.slice (some a) 0 cap)
  | np : Reads ok w .np (.pointer none)
  | list0 (a : Option Addr) (cap : Nat) (h : a = none → cap = 0) : Reads ok w (.list []) (.slice a 0 cap)
  | list (l : List PV) (b off cap sz : Nat) (vs : Nat → Value) (hb : ok b) (hsz : ∀ x ∈ l, x.cells.length = sz) (hcap : l.length ≤ cap)
      (hc : ∀ c, c < (flat l).length → w.cell? ⟨b, off + c, none⟩ = some (vs c))
      (hr : ∀ c (h : c < (flat l).length), Reads ok w (flat l)[c] (vs c)) : Reads ok w (.list l) (.slice (some ⟨b, off, none⟩) l.length cap)
  | nn0 (a : Addr) : Reads ok w (.nn []) (.slice (some a) 0 0)
  | nn (l : List PV) (b off sz : Nat) (vs : Nat → Value) (hb : ok b) (hsz : ∀ x ∈ l, x.cells.length = sz)
      (hc : ∀ c, c < (flat l).length → w.cell? ⟨b, off + c, none⟩ = some (vs c))
      (hr : ∀ c (h : c < (flat l).length), Reads ok w (flat l)[c] (vs c)) : Reads ok w (.nn l) (.slice (some ⟨b, off, none⟩) l.length l.length)
  | agg (l : List PV) (vs : Array Value) (hl : vs.size = l.length) (hr : ∀ c (h : c < l.length), Reads ok w l[c] (vs.getD c undef)) : Reads ok w (.agg l) (.agg vs)
  | tup (l : List PV) (vs : Array Value) (hl : vs.size = l.length) (hr : ∀ c (h : c < l.length), Reads ok w l[c] (vs.getD c undef)) : Reads ok w (.tup l) (.tuple vs)
  | ptr (l : List PV) (b off : Nat) (vs : Nat → Value) (hb : ok b)
      (hc : ∀ c, c < l.length → w.cell? ⟨b, off + c, none⟩ = some (vs c))
      (hr : ∀ c (h : c < l.length), Reads ok w l[c] (vs c)) : Reads ok w (.ptr l) (.pointer (some ⟨b, off, none⟩))
  | fn (f : FuncId) (l : List PV) (vs : Array Value) (hl : vs.size = l.length) (hr : ∀ c (h : c < l.length), Reads ok w l[c] (vs.getD c undef)) : Reads ok w (.fn f l) (.func (.func f) #[] vs)
theorem Reads.extc {ok ok' : Nat → Prop} {w w' : World} (h1 : ∀ b, ok b → ok' b) (h2 : ∀ b o x, ok b → w.cell? ⟨b, o, none⟩ = some x → w'.cell? ⟨b, o, none⟩ = some x) {p : PV} {v : Value} (h : Reads ok w p v) : Reads ok' w' p v := by
  induction h with
  | int k i => exact .int k i
  | bool b => exact .bool b
  | str s => exact .str s
  | nil => exact .nil
  | nz a cap => exact .nz a cap
  | np => exact .np
  | list0 a cap h => exact .list0 a cap h
  | list l b off cap sz vs hb hsz hcap hc hr ih => exact .list l b off cap sz vs (h1 b hb) hsz hcap (fun c hcl => h2 b _ _ hb (hc c hcl)) ih
  | nn0 a => exact .nn0 a
  | nn l b off sz vs hb hsz hc hr ih => exact .nn l b off sz vs (h1 b hb) hsz (fun c hcl => h2 b _ _ hb (hc c hcl)) ih
  | agg l vs hl hr ih => exact .agg l vs hl ih
  | tup l vs hl hr ih => exact .tup l vs hl ih
  | ptr l b off vs hb hc hr ih => exact .ptr l b off vs (h1 b hb) (fun c hcl => h2 b _ _ hb (hc c hcl)) ih
  | fn f l vs hl hr ih => exact .fn f l vs hl ih
theorem Reads.ext {ok ok' : Nat → Prop} {w w' : World} (h1 : ∀ b, ok b → ok' b) (h2 : ∀ b, ok b → w'.heap[b]? = w.heap[b]?) {p : PV} {v : Value} (h : Reads ok w p v) : Reads ok' w' p v :=
  h.extc h1 fun b o x hb hc => by rw [World.cell?_of_block (w := w) (h2 b hb)]; exact hc
theorem Reads.mono {ok ok' : Nat → Prop} {w : World} (h1 : ∀ b, ok b → ok' b) {p : PV} {v : Value} (h : Reads ok w p v) : Reads ok' w p v :=
  h.ext h1 (fun _ _ => rfl)
def PV.flatOnly : PV → Bool
  | .int _ _ => true
  | .bool _ => true
  | .str _ => true
  | .nil => true
  | .agg l => l.all fun | .int _ _ => true | .bool _ => true | .str _ => true | _ => false
  | .tup l => l.all fun | .int _ _ => true | .bool _ => true | .str _ => true | .agg l => l.all (fun | .int _ _ => true | .bool _ => true | .str _ => true | _ => false) | _ => false
  | _ => false
theorem Reads.one {ok : Nat → Prop} {w : World} {p : PV} {v : Value} (h : Reads ok w p v) (h1 : p.one = true) : v.oneCell' = true ∧ v.cells = #[v] := by
  cases h <;> simp_all [PV.one, Value.oneCell', Value.cells]
theorem Reads.nil_list {ok : Nat → Prop} {w : World} {v : Value} (h : Reads ok w .nil v) : Reads ok w (.list []) v := by
  cases h; exact .list0 none 0 fun _ => rfl
theorem Reads.nn_list {ok : Nat → Prop} {w : World} {v : Value} {l : List PV} (h : Reads ok w (.nn l) v) : Reads ok w (.list l) v := by
  cases h with
  | nn0 a => exact .list0 (some a) 0 fun _ => rfl
  | nn _ b off sz vs hb hsz hc hr => exact .list l b off l.length sz vs hb hsz (Nat.le_refl _) hc hr
end Go.Pv

namespace Go.Pv
def gv (g : Nat) : Option (List PV) := none
end Go.Pv
