
/-
  The law PresCosets holds: for every input it returns true, and the inputs read as they did. Proved for every input; no condition is added.
-/
import Derived.Test.YtneglephfhiamaaRows
import Derived.Test.YtneglephfhiamaaB8
import Derived.Test.YtneglephfhiamaaB4
set_option linter.all false
namespace Go.Proofs.Ytneglephfhiamaa.c11
open Go.Pv Go.ChangeShapes Go.WideShapes Go.ChangeAt Go.RowKit

theorem own : ownKnob Try.prog.godebug = none := by kernel_rfl
theorem laidOut : laidOutB Try.prog = true := by kernel_rfl

set_option maxRecDepth 100000 in
theorem lifted (os : Os) (started : os.Started) (H : Type) (enc : TypeId × Value → H) :
    ReturnsInHanded {} Try.checked os 11 .any (Rows.presCosetsSpec.pre6 enc Try.prog Try.f11 Rows.presCosetsRow.domain false) (Rows.presCosetsSpec.post enc Try.prog Try.f11 false true false false) := by
  refine returnsInHanded_of_change_sized (C := Try.checked) own started (by kernel_rfl) Try.func11
    (ChangeSpec.witness6 (enc := enc) (C := Try.checked) false ⟨#[], #[.int .i64 0, .slice none 0 0, .slice none 0 0, .int .i64 0], []⟩ 8 (by kernel_rfl) (by kernel_rfl) (by kernel_rfl) (by kernel_rfl)) ?_
  intro W base args ds gs before hval0 hW hcnd hbig0 _
  have hval : ∀ (j : Nat) t v, Try.f11.params[j]? = some t → args[j]? = some v → Value.okWide Try.prog W .any base t v := hval0
  have hW' := hW
  obtain ⟨p, q, hA0, hV, rfl, hfz, hnd⟩ := hW
  have hA : DataW.TrodAll enc Try.prog W 0 (fun _ => true) true Try.f11.params.toList args.toList ds p := hA0
  have hgs : gs = [] := (trodVars_none hV).1
  have hbig : (DataW.weightsEach Try.prog (Try.f11.params.toList ++ []) (ds ++ [])).all (· ≤ reachBytes) = true := by
    rw [hgs] at hbig0; exact hbig0
  rw [Try.params11] at hA hval hbig
  obtain ⟨v0, v1, v2, v3, d0, d1, d2, d3, p0, p1, p2, p3, rfl, rfl, rfl, h0, h1, h2, h3⟩ := trodAll_four hA
  simp only [List.append_nil, DataW.weightsEach, List.all_append, List.all_nil, Bool.and_true, Bool.and_eq_true] at hbig
  obtain ⟨w0, w1, w2, w3⟩ := hbig
  obtain ⟨x0, b0, r0⟩ := open_i Try.underlying3 (hval 0 3 v0 rfl rfl) h0
  obtain ⟨x1, b1, l1, r1⟩ := open_ll Try.underlying22 Try.underlying35 Try.underlying3 (by kernel_rfl) (by kernel_rfl) (by kernel_rfl) (by kernel_rfl) (hval 1 22 v1 rfl rfl) h1 w1
  obtain ⟨x2, b2, l2, r2⟩ := open_ll Try.underlying22 Try.underlying35 Try.underlying3 (by kernel_rfl) (by kernel_rfl) (by kernel_rfl) (by kernel_rfl) (hval 2 22 v2 rfl rfl) h2 w2
  obtain ⟨x3, b3, r3⟩ := open_i Try.underlying3 (hval 3 3 v3 rfl rfl) h3
  refine ((presCosets_c x0 x1 x2 x3 ⟨Nat.le_trans l1 (by decide), fun w hw => Nat.le_trans (b1 w hw) (by decide)⟩ ⟨Nat.le_trans l2 (by decide), fun w hw => Nat.le_trans (b2 w hw) (by decide)⟩).2 _ W #[v0, v1, v2, v3] ⟨fun b h => h, fun g l h => by cases h⟩ rfl (fun i hi => ?_)).mono fun e W' ⟨v, he, hbl, hv⟩ => ?_
  · match i, hi with
    | 0, _ => exact r0
    | 1, _ => exact r1
    | 2, _ => exact r2
    | 3, _ => exact r3
    | i + 4, hi => exact absurd hi (by simp)
  · subst he
    rw [hv.bool_inv]
    exact ⟨_, rfl, law_post laidOut rfl (by kernel_rfl) Try.underlying4 (by kernel_rfl) hW' (fun _ => rfl) hbl⟩

theorem holds : Rows.PresCosetsSaid :=
  OpenClaim.holds_of_wide 11 Try.f11 rfl rfl rfl rfl rfl rfl rfl ⟨rfl, rfl, rfl, rfl, rfl⟩ rfl rfl rfl rfl rfl (by kernel_rfl) Try.func11 (by kernel_rfl)
    (of_decide_eq_true (by kernel_rfl)) (by unfold Func.isWrapper; first | (rw [if_pos (by decide +kernel)]; kernel_rfl) | (rw [if_neg (by decide +kernel)]; exact ⟨rfl, rfl⟩))
    (fun os started H enc _ => lifted os started H enc)

end Go.Proofs.Ytneglephfhiamaa.c11
