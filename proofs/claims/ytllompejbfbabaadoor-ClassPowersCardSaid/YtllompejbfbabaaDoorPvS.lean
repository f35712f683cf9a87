/-
  The frame of a law's row: from a contract to the statement's post. Conditions: none; a library text.
-/
import Derived.Test.YtllompejbfbabaaDoorPvR
import Derived.ProofKit
import Derived.OpenShut
import Derived.ChangeCalls
import Derived.SizedLaws
set_option linter.all false
namespace Go.Pv
open Go.RowKit Go.ChangeShapes Go.WideShapes

section
variable {H : Type} {enc : TypeId × Value → H} {P : Program}

/-- A row of numbers among the arguments. -/
theorem open_il {t e : TypeId} {W : World} {base : Nat} {v : Value} {d : DataW H} {p : List MemPlace} (ht : P.underlying t = some (.slice e)) (he : P.underlying e = some (.int .i64)) (hc : P.cellsOf e = 1)
    (hby : P.bytesOf e = 8) (hval : Value.okWide P W .any base t v) (h : DataW.Trod enc P W 0 (fun _ => true) true t v d p) (hw : (d.weights P t).all (· ≤ reachBytes) = true) :
    ∃ xs : List Int, (∀ x ∈ xs, In64 x) ∧ xs.length ≤ 17592186043904 ∧ Reads (fun b => b < W.heap.size) W (.list (il xs)) v := by
  obtain ⟨a0, len0, cap0, rfl⟩ := okWide_slice ht hval
  obtain ⟨fuel, hf⟩ := h
  rcases open_ints ht he hc hf with ⟨hcs, hx⟩ | ⟨a, len, cap, zs, hcs, _, hle, hmax, hall, hx, hcell, hwf⟩
  · simp [Value.cells] at hcs
    obtain ⟨rfl, rfl, rfl⟩ := hcs
    exact ⟨[], fun x hx => by simp at hx, Nat.zero_le _, .list0 none 0 fun _ => rfl⟩
  · simp [Value.cells] at hcs
    obtain ⟨rfl, rfl, rfl⟩ := hcs
    simp only [Prod.mk.injEq] at hx
    obtain ⟨rfl, rfl⟩ := hx
    simp only [DataW.weights, ht, hby, List.all_cons, Bool.and_eq_true, decide_eq_true_eq] at hw
    have hbig : (zs.take len0).length * 8 ≤ reachBytes := by
      have e1 : ∀ l : List Int, (lits (H := H) .i64 l).length = l.length := fun l => by simp [lits]
      have := hw.1
      rw [e1, e1] at this
      omega
    unfold reachBytes at hbig
    simp only [if_true] at hall
    have hlen : (zs.take len0).length = len0 := by simp; omega
    refine ⟨zs.take len0, fun x hx => ?_, by omega, ?_⟩
    · have := hwf x (List.mem_of_mem_take hx)
      simp [Lit.wf, IntKind.min, IntKind.max, IntKind.signed, IntKind.bits] at this
      exact ⟨by omega, by omega⟩
    · by_cases h0 : len0 = 0
      · subst h0
        exact .list0 _ _ fun h => by cases h
      · obtain ⟨b, off, rfl, hcell'⟩ := ints_at (w := W) hcell (by omega)
        have hone : ∀ x ∈ il (zs.take len0), x.cells.length = 1 := by
          intro x hx
          obtain ⟨y, _, rfl⟩ := List.mem_map.1 hx
          rfl
        have hfl : flat (il (zs.take len0)) = il (zs.take len0) := flat_all_one (il_all _)
        have := Reads.list (ok := fun b => b < W.heap.size) (w := W) (il (zs.take len0)) b off cap0 1 (fun j => .int .i64 (zs.getD j 0)) ?_ hone (by rw [il_length, hlen]; exact hle) (fun c hcl => ?_) (fun c hcl => ?_)
        · rwa [il_length, hlen] at this
        · have := hcell' 0 (by omega)
          simp only [World.cell?] at this
          by_cases hb : b < W.heap.size
          · exact hb
          · rw [Array.getElem?_eq_none (by omega)] at this
            simp at this
        · rw [hfl, il_length, hlen] at hcl
          exact hcell' c (by omega)
        · simp only [hfl]
          have hcl2 : c < len0 := by rw [hfl, il_length, hlen] at hcl; exact hcl
          have e : (il (zs.take len0))[c]'(by rw [il_length, hlen]; exact hcl2) = .int .i64 (zs.getD c 0) := by
            simp [il, List.getD, List.getElem?_eq_getElem (show c < zs.length by omega)]
          rw [e]
          exact .int _ _

/-- The arguments read behind the call as before. -/
theorem args_stay (hl : laidOutB P = true) {W W' : World} {sp : Nat → Bool} (hb : Below W.heap.size W W') : ∀ {ts : List TypeId} {vs : List Value} {ds : List (DataW H)} {ps : List MemPlace}, (ts.all fun t => P.readableRec t && decide (t < P.types.size)) = true →
    DataW.TrodAll enc P W 0 (fun _ => true) true ts vs ds ps → (∀ x ∈ ps, x.block < W.heap.size) → (∀ x ∈ ps, sp x.block = true) → DataW.TrodAll enc P W' 0 sp true ts vs ds ps
  | [], vs, ds, ps, _, h, _, _ => by
    obtain ⟨rfl, rfl, rfl⟩ := trodAll_nil h
    exact trodAll_mk0
  | t :: ts, vs, ds, ps, ht, h, hlt, hs => by
    obtain ⟨v, vs', d, ds', p, q, rfl, rfl, rfl, h0, h1⟩ := trodAll_cons h
    simp only [List.all_cons, Bool.and_eq_true, decide_eq_true_eq] at ht
    refine trodAll_cons_mk (WideElems.Trod_stays hl ht.1.1 ht.1.2 h0 (fun x hx => hb.same (hlt x (by simp [hx]))) fun x hx => hs x (by simp [hx])) (args_stay hl hb ht.2 h1 (fun x hx => hlt x (by simp [hx])) fun x hx => hs x (by simp [hx]))

/-- THE FRAME: a contract's end, as the row's post. -/
theorem law_post (hl : laidOutB P = true) {f : Func} {s : ChangeSpec} {W W' : World} {args : Array Value} {ds gs : List (DataW H)} {before : List MemPlace} {tb : TypeId} (hvars : s.vars = []) (hr : f.resultTypes = #[tb]) (hb : P.underlying tb = some .bool)
    (hts : (f.params.toList.all fun t => P.readableRec t && decide (t < P.types.size)) = true) (hW : DataW.Whole enc P f.params.toList s.vars false W args.toList ds gs before)
    (hfn : ds.length = f.params.toList.length → s.fn H (ds ++ []) = { results := [.lit (.bool true)], args := ds }) (hbl : Below W.heap.size W W') : s.post enc P f false true false false W args (.bool true) W' := by
  have hW' := hW
  obtain ⟨p, q, hA, hV, rfl, hfz, hnd⟩ := hW
  rw [hvars] at hV
  obtain ⟨rfl, rfl⟩ := trodVars_none hV
  have hlen : ds.length = f.params.toList.length := (trodAll_length hA).2
  have hf := hfn hlen
  have hlt : ∀ x ∈ p, x.block < W.heap.size := fun x hx => by simpa using hW'.lt x (by simp [hx])
  have hold : ∀ x ∈ p ++ [], (fun b => decide (b < W.heap.size)) x.block = true := fun x hx => by simpa using hW'.lt x hx
  have hres : ∀ (b : Nat) (sp : Nat → Bool) (hd : Bool), DataW.TrodAll enc P W' b sp hd f.resultTypes.toList ((Value.bool true).resultList f.resultTypes.size) (s.fn H (ds ++ [])).results [] := by
    intro b sp hd
    rw [hf, hr]
    exact trodAll_mk1 (shut_bool hb _)
  have hargs : ∀ sp : Nat → Bool, (∀ x ∈ p ++ [], sp x.block = true) → DataW.TrodAll enc P W' 0 sp true f.params.toList args.toList (s.fn H (ds ++ [])).args p := by
    intro sp hsp
    rw [hf]
    exact args_stay hl hbl hts hA hlt fun x hx => hsp x (by simp [hx])
  have hvs : ∀ sp : Nat → Bool, DataW.TrodVars enc P W' sp s.vars (s.fn H (ds ++ [])).vars [] := by
    intro sp
    rw [hvars, hf]; rfl
  refine ⟨ds, [], p ++ [], [], p, [], hW', hres _ _ _, hargs _ hold, hvs _, World.keptBut_mono (fun x hx => ⟨hx, ?_⟩) (hbl.frame (· ∈ p ++ [])), fun _ => ?_⟩
  · exact Or.inr (by simpa using hx)
  · refine ⟨ok_one hr rfl (okWide_bool_mk hb _), _, _, ([] ++ p) ++ [], ⟨[] ++ p, [], trodAll_append (hargs _ (fun _ _ => rfl)) (hres _ _ _), hvs _, rfl, ?_, ?_⟩, ?_⟩
    · intro b off hp
      rw [hbl.frozen (p := ⟨b, off, none⟩) (hlt (.cell b off) (by simpa using hp))]
      exact hfz b off (by simpa using hp)
    · intro ha
      have := hnd ha
      simpa using this
    · intro x hx _
      simpa using hx

end

end Go.Pv
