
/-
  The law CharBurnside holds: for every input it returns true, and the inputs read as they did. Proved for every input; no condition is added.
-/
import Derived.Test.YtjlmpmidchddjaaDoorRows
import Derived.Test.YtjlmpmidchddjaaDoorB7
import Derived.Test.YtjlmpmidchddjaaDoorCards
import Derived.Test.YtjlmpmidchddjaaDoorTie
import Derived.SevenTiedAt
set_option linter.all false
namespace Go.Proofs.YtjlmpmidchddjaaDoor.c9
open Go.Pv Go.ChangeShapes Go.WideShapes Go.ChangeAt Go.RowKit

set_option maxRecDepth 100000 in
theorem lifted (os : Os) (started : os.Started) (H : Type) (enc : TypeId × Value → H) :
    ReturnsInHanded {} Tryd.checked os 9 .any (fun w args => (Rows.charBurnsideSpec.pre enc Tryd.prog Tryd.f9 Rows.charBurnsideRow.domain false w args ∧ laidMetH Tryd.prog [("math/bits.deBruijn64tab", Rows.laid_math_bits_deBruijn64tab)] w) ∧ sizedMet enc Tryd.prog Tryd.f9 (OpenSpec.ofChange Rows.charBurnsideSpec) false w args)
      (Rows.charBurnsideSpec.post enc Tryd.prog Tryd.f9 false true false false) := by
  refine returnsInHanded_of_change_and (C := Tryd.checked) (X := fun w _ => laidMetH Tryd.prog [("math/bits.deBruijn64tab", Rows.laid_math_bits_deBruijn64tab)] w) (fun _ _ _ hh h => h.of_heap hh) own started (by kernel_rfl) Tryd.func9
    (ChangeSpec.witness_shaped (enc := enc) (C := Tryd.checked) (os := os) (X := fun w _ => laidMetH Tryd.prog [("math/bits.deBruijn64tab", Rows.laid_math_bits_deBruijn64tab)] w) false (World.doorLaid Tryd.prog 4000 os) #[.agg #[.int .i64 0, .slice none 0 0]] 8 rfl (World.shaped_of_RefB (by kernel_rfl) (by kernel_rfl)) (by kernel_rfl) (by kernel_rfl) (by kernel_rfl) (zC os _)) ?_
  intro W base args ds gs before hval0 hW hcnd hbig0 hL _
  have hval : ∀ (j : Nat) t v, Tryd.f9.params[j]? = some t → args[j]? = some v → Value.okWide Tryd.prog W .any base t v := hval0
  have hW' := hW
  obtain ⟨p, q, hA0, hV, rfl, hfz, hnd⟩ := hW
  have hA : DataW.TrodAll enc Tryd.prog W 0 (fun _ => true) true Tryd.f9.params.toList args.toList ds p := hA0
  have hgs : gs = [] := (trodVars_none hV).1
  have hbig : (DataW.weightsEach Tryd.prog (Tryd.f9.params.toList ++ []) (ds ++ [])).all (· ≤ reachBytes) = true := by
    rw [hgs] at hbig0; exact hbig0
  rw [Tryd.params9] at hA hval hbig
  obtain ⟨v0, d0, rfl, rfl, h0⟩ := trodAll_one hA
  simp only [List.append_nil, DataW.weightsEach, List.all_append, List.all_nil, Bool.and_true, Bool.and_eq_true] at hbig
  have w0 := hbig
  obtain ⟨n0, x0, c0, b0, l0, r0⟩ := Cq Tryd.underlying24 rfl rfl rfl rfl (by kernel_rfl) (by kernel_rfl) Tryd.underlying22 Tryd.underlying3 (by kernel_rfl) (by kernel_rfl) (hval 0 24 v0 rfl rfl) h0 w0
  refine ((o0 n0 x0 (Nat.le_trans l0 (by decide))).2 _ W #[v0] (Cv hL) rfl (fun i hi => ?_)).mono fun e W' ⟨v, he, hbl, hv⟩ => ?_
  · match i, hi with
    | 0, _ => exact r0
    | i + 1, hi => exact absurd hi (by simp)
  · subst he
    rw [hv.fa]
    exact ⟨_, rfl, zG laidOut rfl (by kernel_rfl) Tryd.underlying4 (by kernel_rfl) hW' (fun _ => rfl) hbl⟩

theorem row_holds : Rows.CharBurnsideSaid :=
  OpenClaim.holds_of_wide 9 Tryd.f9 rfl rfl rfl rfl rfl rfl rfl ⟨rfl, rfl, rfl, rfl, rfl⟩ rfl rfl rfl rfl rfl (by kernel_rfl) Tryd.func9 (by kernel_rfl)
    (of_decide_eq_true (by kernel_rfl)) (by unfold Func.isWrapper; first | (rw [if_pos (by decide +kernel)]; kernel_rfl) | (rw [if_neg (by decide +kernel)]; exact ⟨rfl, rfl⟩))
    (fun os started H enc _ => lifted os started H enc)

theorem holds : Rows.CharBurnsideCardSaid :=
  Claim7.holds_tied_plain_at .later [] [.data] true (true, "dcfe2109839d330f5de7d2eeb3528b5d4e65684fb34c9574e1da4166696c4ae7") false
    row_holds (fun _ h => by cases h) (by kernel_rfl) (fun _ h => by cases h) charBurnside_row_tie rfl ⟨rfl, rfl⟩ (by kernel_rfl) rfl
    (fun g gn hg hgn => by
      obtain rfl : g = 9 := Option.some.inj ((show Tryd.prog.funcNamed "cayley/cayleylaw.CharBurnside" = some 9 by kernel_rfl).symm.trans hg) |>.symm
      obtain rfl : gn = Tryd.f9 := (Option.some.inj (Tryd.func9.symm.trans hgn)).symm
      exact ⟨by kernel_rfl, fun j t ht => by
        rw [Tryd.params9] at ht
        have hm : t ∈ [24] := by simpa using Array.mem_of_getElem? ht
        have hall : ([24].all fun u => !Tryd.prog.wantsStandIn u) = true := by kernel_rfl
        exact (show Tryd.prog.wantsStandIn t = false by simpa using List.all_eq_true.1 hall t hm)⟩)
    (by kernel_rfl)

end Go.Proofs.YtjlmpmidchddjaaDoor.c9
