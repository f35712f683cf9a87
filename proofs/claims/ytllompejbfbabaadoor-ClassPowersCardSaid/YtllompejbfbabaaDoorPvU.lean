/-
  Arguments of a law, opened: numbers, rows of numbers, groups; and small equations for walks. Conditions: none; a library text.
-/
import Derived.Test.YtllompejbfbabaaDoorPvS
set_option linter.all false
namespace Go.Pv
open Go.RowKit Go.ChangeShapes Go.WideShapes

/-- A group, as a table: so many things; the products. -/
def gp (n : Int) (m : List Int) : PV := .agg [.int .i64 n, .list (il m)]

section
variable {H : Type} {enc : TypeId × Value → H} {P : Program}

theorem open_i {t : TypeId} {W : World} {base : Nat} {v : Value} {d : DataW H} {p : List MemPlace} (ht : P.underlying t = some (.int .i64)) (hval : Value.okWide P W .any base t v) (h : DataW.Trod enc P W 0 (fun _ => true) true t v d p) :
    ∃ x : Int, In64 x ∧ Reads (fun b => b < W.heap.size) W (.int .i64 x) v := by
  obtain ⟨n, rfl, _, _, hw⟩ := open_int ht hval h
  simp [Lit.wf, IntKind.min, IntKind.max, IntKind.signed, IntKind.bits] at hw
  exact ⟨n, ⟨by omega, by omega⟩, .int _ _⟩

/-- A row of numbers, out of its cell. -/
theorem il_of_trod {t e : TypeId} {W : World} {fuel : Nat} {cs : List Value} {x : DataW H × List MemPlace} (ht : P.underlying t = some (.slice e)) (he : P.underlying e = some (.int .i64)) (hc : P.cellsOf e = 1)
    (hby : P.bytesOf e = 8) (hf : DataW.trod enc P W 0 (fun _ => true) true fuel t cs = some x) (hw : (x.1.weights P t).all (· ≤ reachBytes) = true) :
    ∃ (xs : List Int) (v : Value), cs = [v] ∧ (∀ x ∈ xs, In64 x) ∧ xs.length ≤ 17592186043904 ∧ Reads (fun b => b < W.heap.size) W (.list (il xs)) v := by
  rcases open_ints ht he hc hf with ⟨rfl, rfl⟩ | ⟨a, len0, cap0, zs, rfl, _, hle, hmax, hall, rfl, hcell, hwf⟩
  · exact ⟨[], _, rfl, fun x hx => by simp at hx, Nat.zero_le _, .list0 none 0 fun _ => rfl⟩
  · simp only [DataW.weights, ht, hby, List.all_cons, Bool.and_eq_true, decide_eq_true_eq] at hw
    have hbig : (zs.take len0).length * 8 ≤ reachBytes := by
      have e1 : ∀ l : List Int, (lits (H := H) .i64 l).length = l.length := fun l => by simp [lits]
      have := hw.1
      rw [e1, e1] at this
      omega
    unfold reachBytes at hbig
    simp only [if_true] at hall
    have hlen : (zs.take len0).length = len0 := by simp; omega
    refine ⟨zs.take len0, _, rfl, fun x hx => ?_, by omega, ?_⟩
    · have := hwf x (List.mem_of_mem_take hx)
      simp [Lit.wf, IntKind.min, IntKind.max, IntKind.signed, IntKind.bits] at this
      exact ⟨by omega, by omega⟩
    · by_cases h0 : len0 = 0
      · subst h0
        exact .list0 _ _ fun h => by cases h
      · obtain ⟨b, off, rfl, hcell'⟩ := ints_at (w := W) hcell (by omega)
        have hone : ∀ x ∈ il (zs.take len0), x.cells.length = 1 := by
          intro x hx
          obtain ⟨y, _, rfl⟩ := List.mem_map.1 hx
          rfl
        have hfl : flat (il (zs.take len0)) = il (zs.take len0) := flat_all_one (il_all _)
        have := Reads.list (ok := fun b => b < W.heap.size) (w := W) (il (zs.take len0)) b off cap0 1 (fun j => .int .i64 (zs.getD j 0)) ?_ hone (by rw [il_length, hlen]; exact hle) (fun c hcl => ?_) (fun c hcl => ?_)
        · rwa [il_length, hlen] at this
        · have := hcell' 0 (by omega)
          simp only [World.cell?] at this
          by_cases hb : b < W.heap.size
          · exact hb
          · rw [Array.getElem?_eq_none (by omega)] at this
            simp at this
        · rw [hfl, il_length, hlen] at hcl
          exact hcell' c (by omega)
        · simp only [hfl]
          have hcl2 : c < len0 := by rw [hfl, il_length, hlen] at hcl; exact hcl
          have e : (il (zs.take len0))[c]'(by rw [il_length, hlen]; exact hcl2) = .int .i64 (zs.getD c 0) := by
            simp [il, List.getD, List.getElem?_eq_getElem (show c < zs.length by omega)]
          rw [e]
          exact .int _ _

theorem open_gp {t tl ti : TypeId} {W : World} {base : Nat} {v : Value} {d : DataW H} {p : List MemPlace} {f0 f1 : Field} (ht : P.underlying t = some (.struct #[f0, f1])) (hf0 : f0.type = ti) (hf1 : f1.type = tl) (ho0 : f0.offset = 0) (ho1 : f1.offset = 1)
    (hct : P.cellsOf t = 2) (hcl : P.cellsOf tl = 1) (htl : P.underlying tl = some (.slice ti)) (hti : P.underlying ti = some (.int .i64)) (hc : P.cellsOf ti = 1)
    (hby : P.bytesOf ti = 8) (hval : Value.okWide P W .any base t v) (h : DataW.Trod enc P W 0 (fun _ => true) true t v d p) (hw : (d.weights P t).all (· ≤ reachBytes) = true) :
    ∃ (n : Int) (xs : List Int), In64 n ∧ (∀ x ∈ xs, In64 x) ∧ xs.length ≤ 17592186043904 ∧ Reads (fun b => b < W.heap.size) W (gp n xs) v := by
  obtain ⟨cs, rfl, hsz⟩ := okWide_struct ht hval
  obtain ⟨fuel, hf⟩ := h
  obtain ⟨y0, y1, m, hx, hl, h0, h1⟩ := trod_struct2 ht hf
  simp only [Prod.mk.injEq] at hx
  obtain ⟨rfl, rfl⟩ := hx
  subst hf0 hf1
  simp only [DataW.weights, ht, List.map_cons, List.map_nil, DataW.weightsEach, List.append_nil, List.all_append, Bool.and_eq_true] at hw
  rw [ho0, hc, List.drop_zero] at h0
  rw [ho1, hcl] at h1
  obtain ⟨n, hcs0, _, hwf⟩ := DataW.trod_int hti h0
  obtain ⟨xs, v1, hcs1, g1, g2, g3⟩ := il_of_trod htl hti hc hby h1 hw.2
  rw [hct] at hsz hl
  simp only [Value.cells] at hcs0 hcs1 hl
  simp [Lit.wf, IntKind.min, IntKind.max, IntKind.signed, IntKind.bits] at hwf
  have c0 : cs.toList[0]? = some (.int .i64 n) := by
    have := congrArg (fun l => l[0]?) hcs0
    simpa using this
  have c1 : cs.toList[1]? = some v1 := by
    have := congrArg (fun l => l[0]?) hcs1
    simpa using this
  have hc0 : cs.getD 0 undef = .int .i64 n := by
    rw [Array.getElem?_toList] at c0
    rw [Array.getD_eq_getD_getElem?, c0]; rfl
  have hc1 : cs.getD 1 undef = v1 := by
    rw [Array.getElem?_toList] at c1
    rw [Array.getD_eq_getD_getElem?, c1]; rfl
  refine ⟨n, xs, ⟨by omega, by omega⟩, g1, g2, .agg _ _ (by rw [hsz]; rfl) fun c hc => ?_⟩
  match c, hc with
  | 0, _ => rw [hc0]; exact .int _ _
  | 1, _ => rw [hc1]; exact g3
  | c + 2, hc => exact absurd hc (by simp)

end

/-! ### Tests, as decisions -/

theorem ieq (a b : Int) : (a == b) = decide (a = b) := rfl
theorem ine (a b : Int) : (a != b) = !decide (a = b) := rfl
theorem deq_self (a : Int) : decide (a = a) = true := by simp
theorem bnot_t : (!true) = false := rfl
theorem bnot_f : (!false) = true := rfl
theorem band_t (b : Bool) : (true && b) = b := rfl
theorem band_f (b : Bool) : (false && b) = false := rfl
theorem tm_nn (m n : Nat) : Int.tmod (m : Int) (n : Int) = ((m % n : Nat) : Int) := rfl
theorem td_nn (m n : Nat) : Int.tdiv (m : Int) (n : Int) = ((m / n : Nat) : Int) := rfl

end Go.Pv
