/-
  A call that takes a row of the call's own for good. Conditions: none; a library text.
-/
import Derived.Test.YthdmioeddgednaaT1
set_option linter.all false
namespace Go.Pv
open Go.RowKit

section
variable {P : Program}
theorem peekG_hget {H H2 : Heap} {k : Nat} {x : AV} (hx : isPk k x = true) (h : hget H2 k = hget H k) : peekG H2 x = peekG H x := by
  cases x with
  | p v => rfl
  | sl j lo len =>
    have hj : j = k := by simpa [isPk] using hx
    subst hj
    simp only [peekG, peekS, h]
  | _ => simp [isPk] at hx

/-- A call that takes a row of the call's own for good: the row is frozen behind it. -/
theorem runs2_callK {all : Array Oper} {rest : List Oper} {K : St → List I2 → Prop} {acc : List I2} {s : St} {dst : Option Tmp} {ty : TypeId} {pos : String} {aft : Array Edge} {gd : Option (Nat × Bool)} {fo : Operand} {args : Array Operand} {ts : Array TypeId} {g : FuncId} {avs : List PV} {p : Prop} {r : PV} (k : Nat) {c : List AV} {ps : List PV}
    (hc : FnC P g avs r) (hg : guardA all s { dst := dst, op := .call { callee := .value fo, args := args, argTypes := ts }, type := ty, pos := pos, after := aft, guard := gd } = some true)
    (hown : hget s.H k = .own c) (hall : allP c = some ps)
    (hcall : callA ({ s with H := hset s.H k (.fro ps) } : St) fo args = some (g, avs, p, true)) (hpure : args.toList.all (fun x => isPk k (s.ev x)) = true) (hd : dstOk s dst) (hp : p)
    (h : Runs2 P all rest K (({ s with H := hset s.H k (.fro ps) } : St).put dst (.p r)) (acc ++ [⟨.st k, .p r, .fro ps, false⟩])) :
    Runs2 P all ({ dst := dst, op := .call { callee := .value fo, args := args, argTypes := ts }, type := ty, pos := pos, after := aft, guard := gd } :: rest) K s acc := by
  obtain ⟨s', xs, hr, hK⟩ := h
  have hk : k < s.H.length := (List.getElem?_eq_some_iff.1 (hget_mut hown)).1
  refine ⟨s', ⟨.st k, .p r, .fro ps, false⟩ :: xs, .op hg (dstOk_spec hd) ⟨hk, ?_⟩ (fun h => by cases h) hr, by rw [List.append_assoc] at hK; exact hK⟩
  intro s2 hn ha hH
  have hown2 : hget s2.H k = .own c := hH.trans hown
  have hk2 : k < s2.H.length := (List.getElem?_eq_some_iff.1 (hget_mut hown2)).1
  have he : hget (hset s2.H k (.fro ps)) k = hget (hset s.H k (.fro ps)) k := by
    rw [hset_hget, hset_hget, if_pos ⟨rfl, hk2⟩, if_pos ⟨rfl, hk⟩]
  have hcall2 : callA ({ s2 with H := hset s2.H k (.fro ps) } : St) fo args = some (g, avs, p, true) := by
    rw [← hcall]
    exact callA_pure (s := { s with H := hset s.H k (.fro ps) }) (s2 := { s2 with H := hset s2.H k (.fro ps) }) ts (fun x hx => ha x hx) fun x hx => peekG_hget ((List.all_eq_true.1 hpure) x hx) he
  have hdo := call_does (P := P) (s := { s2 with H := hset s2.H k (.fro ps) }) (o := { dst := dst, op := .call { callee := .value fo, args := args, argTypes := ts }, type := ty, pos := pos, after := aft, guard := gd }) rfl hc hcall2 hp (by simp)
  intro C m a w K Q R hK
  exact hdo C m a w K Q (R.freeze hown2 hall) fun v m' w' R' hv => hK v m' w' R' hv
end
end Go.Pv
