/-
  Texts and their bytes: two operations beside the set. Conditions: none; a library text.
-/
import Derived.Test.YtpafmpcecgpfbaaPvT
import Derived.Test.YtpafmpcecgpfbaaPvZ
set_option linter.all false
namespace Go.Pv
open Go.RowKit

/-- A text's bytes, as numbers. -/
def byl (s : ByteArray) : List Int := s.data.toList.map fun b => (b.toNat : Int)

def bl (w : List Int) : List PV := w.map (PV.int .u8)

theorem bl_length (w : List Int) : (bl w).length = w.length := by simp [bl]
theorem byl_length (s : ByteArray) : (byl s).length = s.size := by rw [byl, List.length_map, Array.length_toList]; rfl
theorem bl_get {w : List Int} {i : Nat} (h : i < w.length) : (bl w).getD i default = .int .u8 (w.getD i 0) := by
  simp [bl, List.getD, List.getElem?_eq_getElem h]
theorem flat_bl (w : List Int) : flat (bl w) = bl w := flat_one _ fun x hx => by
  simp only [bl, List.mem_map] at hx
  obtain ⟨i, _, rfl⟩ := hx
  rfl

theorem flat_bl_at {w : List Int} {i : Nat} (h : i < (flat (bl w)).length) : (flat (bl w))[i] = .int .u8 (w.getD i 0) := by
  have h2 : i < w.length := by simpa [flat_bl, bl_length] using h
  have e : (flat (bl w))[i]? = some (.int .u8 (w.getD i 0)) := by
    rw [flat_bl, bl, List.getElem?_map, List.getElem?_eq_getElem h2, List.getD_eq_getElem?_getD, List.getElem?_eq_getElem h2]
    rfl
  rw [List.getElem?_eq_getElem h] at e
  exact Option.some.inj e

section
variable {P : Program} {T : TypeId → Option TI} {C : Ctx} {m : Map} {s : St} {tmps : Array Value} {w : World}

/-- A new block, of no one's: what is read of it is pure. -/
theorem Rel.okNew (R : Rel C m s tmps w) {w' : World} (hb : Below w.heap.size w w') (hl : w.heap.size < w'.heap.size) : OK C m s.H w' w.heap.size := by
  refine ⟨.inr (R.base _ (Nat.le_refl _)), hl, fun k c l h hm => ?_⟩
  rcases R.blk k c h with ⟨_, hn⟩ | ⟨l', cur', e', hl', _, hg', _⟩
  · rw [hm] at hn; cases hn
  · rw [hm] at hl'; cases hl'
    have := (Array.getElem?_eq_some_iff.1 hg').1
    omega

theorem toBytes_does (hT : ∀ t ti, T t = some ti → tiOf P t = some ti) {o : Oper} {src dst : TypeId} {x : Operand} (ho : o.op = .convert src dst x) {ti td te : TI} (ht : T src = some ti) (hk : ti.kind = .str) (htd : T dst = some td) {e : TypeId} (hkd : td.kind = .slice e) (hte : T e = some te) (hke : te.kind = .int .u8)
    {b : ByteArray} (hx : s.ev x = .p (.str b)) : DoesW P o s (.p (.list (bl (byl b)))) s.H := by
  intro C m a w K Q R hK
  have h := R.ev x
  rw [hx] at h
  have hv := h.p_inv.str_inv
  have hr := run_bytes_of_string (P := P) w src dst e b (ti_str (hT _ _ ht) hk) (ti_slice (hT _ _ htd) hkd) (ti_int (hT _ _ hte) hke)
  have hrun : (execOp a.eval o).run P w = .ok (.value (.slice (some ⟨w.heap.size, 0, none⟩) b.size (grownCap w b.size 0 e)))
      (w.drew.alloc (.cells (bytesRow b (grownCap w b.size 0 e)) e ((bytesRow b (grownCap w b.size 0 e)).size, (bytesRow b (grownCap w b.size 0 e)).size + 1))) := by
    simp only [execOp, ho, hv, Sem.run_bind, hr, Result.andThen_ok, Sem.run_pure]
  unfold Oper.wp
  rw [hrun]
  have hbl := below_drew_alloc (w := w) (.cells (bytesRow b (grownCap w b.size 0 e)) e ((bytesRow b (grownCap w b.size 0 e)).size, (bytesRow b (grownCap w b.size 0 e)).size + 1))
  have hge := grownCap_ge w b.size 0 e
  generalize grownCap w b.size 0 e = g at *
  refine hK _ m _ (R.later hbl) (.p _ _ ?_)
  have hl : b.size = (bl (byl b)).length := by rw [bl_length, byl_length]
  rw [hl]
  refine .list (bl (byl b)) w.heap.size 0 _ 1 (fun c => .int .u8 ((byl b).getD c 0)) (R.okNew hbl ?_) ?_ ?_ ?_ ?_
  · show w.heap.size < (w.heap.push _).size
    simp
  · intro x hx
    simp only [bl, List.mem_map] at hx
    obtain ⟨i, _, rfl⟩ := hx
    rfl
  · rw [← hl]; exact hge
  · intro c hc
    rw [flat_bl, bl_length, byl_length] at hc
    have hc' : c < b.data.size := hc
    have e1 := World.cell?_alloc_mark w.drew (bytesRow b g) e ((bytesRow b g).size, (bytesRow b g).size + 1) (0 + c)
    have e2 : (w.drew).heap.size = w.heap.size := rfl
    rw [e2] at e1
    rw [e1, Nat.zero_add, bytesRow_at b _ c hc']
    congr 2
    have e4 : (byl b).getD c 0 = (b.data[c].toNat : Int) := by
      rw [List.getD_eq_getElem?_getD, byl, List.getElem?_map, Array.getElem?_toList, Array.getElem?_eq_getElem hc']
      rfl
    rw [e4]
  · intro c hc
    have h2 : c < (byl b).length := by simpa [flat_bl, bl_length] using hc
    rw [flat_bl_at hc]
    exact .int _ _

theorem toText_does (hT : ∀ t ti, T t = some ti → tiOf P t = some ti) {o : Oper} {src dst : TypeId} {x : Operand} (ho : o.op = .convert src dst x) {ti td te : TI} (ht : T src = some ti) {e : TypeId} (hk : ti.kind = .slice e) (hte : T e = some te) (hke : te.kind = .int .u8) (htd : T dst = some td) (hkd : td.kind = .str)
    {v : List Int} (hx : s.ev x = .p (.list (bl v))) : DoesW P o s (.p (.str (strOfNums v))) s.H := by
  intro C m a w K Q R hK
  have h := R.ev x
  rw [hx] at h
  have hr : (convert src dst (a.eval x)).run P w = .ok (.string (strOfNums v)) w := by
    rcases h.p_inv.list_inv with ⟨h0, ad, cap, hv⟩ | ⟨b, off, cap, sz, vs, hv, hb, hsz, hcap, hc, hr⟩
    · have h0 : v = [] := by simpa [bl] using h0
      subst h0
      rw [hv]
      cases ad with
      | none => rw [run_convert_bytes_nil w src e (ti_slice (hT _ _ ht) hk) (ti_int (hT _ _ hte) hke) 0 cap dst (ti_str (hT _ _ htd) hkd)]; rfl
      | some ad =>
        have := run_convert_bytes_back (P := P) w src dst e ad cap [] (ti_slice (hT _ _ ht) hk) (ti_int (hT _ _ hte) hke) (ti_str (hT _ _ htd) hkd) (fun j hj => by simp at hj)
        simpa [strOfNums] using this
    · rw [hv, bl_length]
      refine run_convert_bytes_arg w src e (ti_slice (hT _ _ ht) hk) (ti_int (hT _ _ hte) hke) b off v.length cap v rfl (fun i hi => ?_) dst (ti_str (hT _ _ htd) hkd)
      rw [flat_bl] at hc
      rw [hc i (by rw [bl_length]; exact hi)]
      have h3 := hr i (by rw [flat_bl, bl_length]; exact hi)
      rw [flat_bl_at] at h3
      rw [h3.int_inv]
  unfold Oper.wp
  have hrun : (execOp a.eval o).run P w = .ok (.value (.string (strOfNums v))) w := by
    simp only [execOp, ho, Sem.run_bind, hr, Result.andThen_ok, Sem.run_pure]
  rw [hrun]
  exact hK _ m w R (.p _ _ (.str _))
end
end Go.Pv
