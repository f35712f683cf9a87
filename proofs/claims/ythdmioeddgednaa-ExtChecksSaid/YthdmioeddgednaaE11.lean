/-
  A row is made where the order is drawn. Conditions: none; a library text.
-/
import Derived.Test.YthdmioeddgednaaH12
import Derived.Test.YthdmioeddgednaaPvW2
set_option linter.all false
namespace Go.Pv
open Go.RowKit

theorem ol_opl (w : List Int) : ol w = opl (il w) := rfl

theorem runs2_makeSlice {P : Program} {T : TypeId → Option TI} {s : St} (hT : ∀ t ti, T t = some ti → tiOf P t = some ti) {all : Array Oper} {rest : List Oper} {K : St → List I2 → Prop} {acc : List I2} {dst : Option Tmp} {ty : TypeId} {pos : String} {aft : Array Edge} {gd : Option (Nat × Bool)} {t : TypeId} {x y : Operand}
    {ti te : TI} {e : TypeId} {z : Value} {k1 k2 : IntKind} {N : Nat} (ht : T t = some ti) (hk : ti.kind = .slice e) (hte : T e = some te) (hz : te.zero = [z]) (hcv : cv z = .p (.int .i64 0)) (hsz : te.size = 1) (hx : s.ev x = .p (.int k1 (N : Int))) (hy : s.ev y = .p (.int k2 (N : Int)))
    (hg : guardA all s { dst := dst, op := .makeSlice t x y, type := ty, pos := pos, after := aft, guard := gd } = some true) (hd : dstOk s dst) (hb : (N : Int) * te.bytes ≤ 140737488355328 ∧ (N : Int) ≤ 9223372036854775807)
    (h : Runs2 P all rest K (({ s with H := s.H ++ [.own (ol (List.replicate N 0))] } : St).put dst (.sl s.H.length 0 N)) (acc ++ [⟨.nw s.H.length, .sl s.H.length 0 N, .own (ol (List.replicate N 0)), true⟩])) :
    Runs2 P all ({ dst := dst, op := .makeSlice t x y, type := ty, pos := pos, after := aft, guard := gd } :: rest) K s acc := by
  obtain ⟨s', xs, hr, hK⟩ := h
  have pure : ∀ (q : Nat) (hq : q < (ol (List.replicate N 0)).length), ∃ v, (ol (List.replicate N (0 : Int)))[q] = .p v := fun q hq => ⟨(il (List.replicate N (0 : Int)))[q]'(by simpa [ol] using hq), by simp [ol]⟩
  refine ⟨s', ⟨.nw s.H.length, .sl s.H.length 0 N, .own (ol (List.replicate N 0)), true⟩ :: xs, .op hg (dstOk_spec hd) ⟨rfl, ?_⟩ (fun _ c hc q hq κ => by
    cases hc
    obtain ⟨v, e⟩ := pure q hq
    rw [e]
    exact .p _) hr, by rw [List.append_assoc] at hK; exact hK⟩
  intro s2 hn ha hdd n1 n2 n3
  have hx2 : s2.ev x = .p (.int k1 (N : Int)) := by rw [← hx]; exact ha x (by simp [Op.operands])
  have hy2 : s2.ev y = .p (.int k2 (N : Int)) := by rw [← hy]; exact ha y (by simp [Op.operands])
  have hm : makeSliceA T ti s2.H (s2.ev x) (s2.ev y) = some ⟨te.size = 1 ∧ 0 ≤ (N : Int) ∧ (N : Int) ≤ (N : Int) ∧ (N : Int) * te.bytes ≤ 140737488355328 ∧ (N : Int) ≤ 9223372036854775807, .sl s2.H.length 0 N, s2.H ++ [.own (ol (List.replicate N 0))]⟩ := by
    rw [hx2, hy2]
    simp only [makeSliceA, hk, hte, hz, hcv, Int.toNat_natCast, ol_replicate]
  refine Does.wp fun C m a w R => ?_
  obtain ⟨v, w', m', hyi, R', hv⟩ := makeSliceA_does hT R (o := { dst := dst, op := .makeSlice t x y, type := ty, pos := pos, after := aft, guard := gd }) rfl ht hm ⟨hsz, by omega, Int.le_refl _, hb⟩
  obtain ⟨g1, _, g2⟩ := Rel.move R (b := .own (ol (List.replicate N 0))) R' hdd n3 (fun _ _ h => by cases h) n1 n2 fun c hc i hi => by
    cases hc
    obtain ⟨v, e⟩ := pure i hi
    rw [e]
    exact ⟨.p _, .p _⟩
  exact ⟨v, w', _, hyi, g1, g2 _ _ v hv⟩

end Go.Pv
