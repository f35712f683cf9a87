/-
  The law FreeCores holds: for every input it returns true, and the input reads as it did. Proved for every input; no condition is added.
-/
import Derived.Test.YthmgpgkfeknhgaaRows
import Derived.Test.YthmgpgkfeknhgaaW10
import Derived.Test.YthmgpgkfeknhgaaPvS
set_option linter.all false
namespace Go.Proofs.Ythmgpgkfeknhgaa
open Go.Pv Go.ChangeShapes Go.WideShapes Go.ChangeAt Go.RowKit

theorem own : ownKnob Try.prog.godebug = none := by kernel_rfl
theorem laidOut : laidOutB Try.prog = true := by kernel_rfl

set_option maxRecDepth 100000 in
theorem cores_lifted (os : Os) (started : os.Started) (H : Type) (enc : TypeId × Value → H) :
    ReturnsInHanded {} Try.checked os 5 .any (Rows.freeCoresSpec.pre6 enc Try.prog Try.f5 Rows.freeCoresRow.domain false) (Rows.freeCoresSpec.post enc Try.prog Try.f5 false true false false) := by
  refine returnsInHanded_of_change (C := Try.checked) own started (by kernel_rfl) Try.func5
    (ChangeSpec.witness6 (enc := enc) (C := Try.checked) false ⟨#[], #[.slice none 0 0], []⟩ 8 (by kernel_rfl) (by kernel_rfl) (by kernel_rfl) (by kernel_rfl)) ?_
  intro W base args ds gs before hval0 hW hcnd _
  have hval : ∀ (j : Nat) t v, Try.f5.params[j]? = some t → args[j]? = some v → Value.okWide Try.prog W .any base t v := hval0
  have hW' := hW
  obtain ⟨p, q, hA0, hV, rfl, hfz, hnd⟩ := hW
  have hA : DataW.TrodAll enc Try.prog W 0 (fun _ => true) true Try.f5.params.toList args.toList ds p := hA0
  rw [Try.params5] at hA hval
  obtain ⟨v0, d0, rfl, rfl, h0⟩ := trodAll_one hA
  obtain ⟨x0, b0, l0, r0⟩ := open_il Try.underlying22 Try.underlying3 (by kernel_rfl) (hval 0 22 v0 rfl rfl) h0
  refine ((cores_c x0).2 _ W #[v0] (fun b h => h) rfl (fun i hi => ?_)).mono fun e W' ⟨v, he, hbl, hv⟩ => ?_
  · obtain rfl : i = 0 := by simp at hi; omega
    exact r0
  · subst he
    rw [hv.bool_inv]
    exact ⟨_, rfl, law_post laidOut rfl (by kernel_rfl) Try.underlying4 (by kernel_rfl) hW' (fun _ => rfl) hbl⟩

theorem cores_holds : Rows.FreeCoresSaid :=
  OpenClaim.holds_of_wide 5 Try.f5 rfl rfl rfl rfl rfl rfl rfl ⟨rfl, rfl, rfl, rfl, rfl⟩ rfl rfl rfl rfl rfl (by kernel_rfl) Try.func5 (by kernel_rfl)
    (of_decide_eq_true (by kernel_rfl)) (by unfold Func.isWrapper; first | (rw [if_pos (by decide +kernel)]; kernel_rfl) | (rw [if_neg (by decide +kernel)]; exact ⟨rfl, rfl⟩))
    (fun os started H enc _ => cores_lifted os started H enc)

end Go.Proofs.Ythmgpgkfeknhgaa
