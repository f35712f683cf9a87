/-
  Texts of this proof, one behind the other: what each says stands at its head. Conditions: none.
-/
import Derived.Test.YtneglephfhiamaaB5
import Derived.Test.YtneglephfhiamaaB4
import Derived.RangeFuncRecord
import Derived.RangeFuncLeaves

set_option linter.all false
namespace Go.Proofs.Ytneglephfhiamaa
open Go.Pv
def rwM (m : Nat) (r : List Int) : Mp := fun x => if x ≠ 0 ∧ -(m : Int) ≤ x ∧ x ≤ m ∧ ¬ rg r x < 0 then some (rg r x) else none
def gN (m : Nat) (N : List (List Int)) : List Mp := N.map (rwM m)
theorem gN_len {m : Nat} {N : List (List Int)} : (gN m N).length = N.length := by simp [gN]
theorem gm_gN {m : Nat} {N : List (List Int)} {i : Nat} (h : i < N.length) : gm (gN m N) i = rwM m (N.getD i []) := by
  unfold gm gN
  rw [List.getD_eq_getElem?_getD, List.getElem?_map, List.getElem?_eq_getElem h, List.getD_eq_getElem?_getD, List.getElem?_eq_getElem h]; rfl
theorem WR.wg {m : Nat} {N : List (List Int)} {U : List Int} (hm : m ≤ 26) (w : WR m N U) : WG (gN m N) U := by
  refine ⟨by rw [gN_len]; exact w.len, w.fo, fun v x d hv hd => ?_⟩
  rw [gN_len] at hv ⊢
  rw [gm_gN hv] at hd
  unfold rwM at hd
  split at hd
  · rename_i h
    obtain rfl := Option.some.inj hd
    exact ⟨by omega, w.rg hv h.2.2.2, h.1, by omega, by omega⟩
  · cases hd
theorem rwM_set {m : Nat} {r : List Int} (hr : r.length = 2 * m) {x : Int} (hx : x ≠ 0 ∧ -(m : Int) ≤ x ∧ x ≤ m) (b : Nat) : rwM m (r.set (cI x).toNat (b : Int)) = updM (rwM m r) x b := by
  funext y
  by_cases hy : y = x
  · subst hy
    unfold updM
    rw [if_pos rfl]
    have e : rg (r.set (cI y).toNat (b : Int)) y = b := by
      unfold rg
      rw [List.getD_eq_getElem?_getD, List.getElem?_set_self (by rw [hr]; exact (cI_lt hx.1 hx.2.1 hx.2.2).2)]; rfl
    unfold rwM
    rw [e, if_pos ⟨hx.1, hx.2.1, hx.2.2, by omega⟩]
  · have e2 : updM (rwM m r) x b y = rwM m r y := by unfold updM; rw [if_neg hy]
    rw [e2]
    unfold rwM
    by_cases hy0 : y = 0
    · rw [if_neg (fun h => h.1 hy0), if_neg (fun h => h.1 hy0)]
    · have e : rg (r.set (cI x).toNat (b : Int)) y = rg r y := by
        unfold rg
        rw [List.getD_eq_getElem?_getD, List.getElem?_set_ne (fun h => hy (cI_inj hx.1 hy0 h).symm), List.getD_eq_getElem?_getD]
      rw [e]
theorem gN_set {m : Nat} {N : List (List Int)} {a : Nat} {r : List Int} : gN m (N.set a r) = (gN m N).set a (rwM m r) := by
  unfold gN; rw [List.map_set]
theorem psh_rev {m : Nat} {r : List Int} {keep : Nat} : ∀ (L : List Int) (S : List E3), (∀ y ∈ L, -(m : Int) ≤ y ∧ y ≤ m) → (L.foldl (psh r keep) S).reverse = S.reverse ++ goneW (rwM m r) keep (L.filter fun y => (rwM m r y).isSome)
  | [], S, _ => by simp [goneW]
  | x :: L, S, h => by
    rw [List.foldl_cons, psh_rev L _ fun y hy => h y (by simp [hy])]
    obtain ⟨h1, h2⟩ := h x (by simp)
    unfold psh
    by_cases h0 : x = 0
    · have e : (rwM m r x).isSome = false := by unfold rwM; rw [if_neg (fun h => h.1 h0)]; rfl
      rw [if_pos h0, List.filter_cons, e]; rfl
    · by_cases hx : rg r x < 0
      · have e : (rwM m r x).isSome = false := by unfold rwM; rw [if_neg (fun h => h.2.2.2 hx)]; rfl
        rw [if_neg h0, if_pos hx, List.filter_cons, e]; rfl
      · have e : rwM m r x = some (rg r x) := by unfold rwM; rw [if_pos ⟨h0, h1, h2, hx⟩]
        rw [if_neg h0, if_neg hx, List.filter_cons, e]
        simp only [Option.isSome_some, if_true, List.reverse_cons, List.append_assoc, List.cons_append, List.nil_append]
        unfold goneW
        rw [List.flatMap_cons, e]
        rfl
theorem setS_nxt {m : Nat} (hm : m ≤ 26) {N : List (List Int)} {U : List Int} {t : E3} {S : List E3} (w : WR m N U) (h : OkS m N.length (t :: S)) (hs : SymW (gN m N) U (S.reverse ++ [t])) :
    Nxt (gN m N) U (S.reverse ++ [t]) (gN m (setS m N U t S).1) (setS m N U t S).2.1 (setS m N U t S).2.2.reverse := by
  obtain ⟨e0, x, e2⟩ := t
  obtain ⟨h0, h2, hx⟩ := h (e0, x, e2) (by simp)
  simp only at h0 h2 hx
  have hW : OkW (gN m N).length (S.reverse ++ [(e0, x, e2)]) := fun t ht => by
    have : t ∈ (e0, x, e2) :: S := by simpa [or_comm] using ht
    obtain ⟨a1, a2, a3, a4, a5⟩ := h t this
    rw [gN_len]
    exact ⟨a1, a2, a3, by omega, by omega⟩
  have w1 := w.of h0
  have w2 := w1.of h2
  have r1 : ∀ u, u < N.length → rV (ofU U e0) u = rV U u := fun u hu => ofU_rV w.fo (by rw [w.len]; exact h0) (by rw [w.len]; exact hu)
  have r2 : ∀ u, u < N.length → rV (ofU (ofU U e0) e2) u = rV U u := fun u hu => by
    rw [ofU_rV w1.fo (by rw [w1.len]; exact h2) (by rw [w1.len]; exact hu)]; exact r1 u hu
  have ea : ofV U e0 = rV U e0 := ofV_eq w.fo (by rw [w.len]; exact h0)
  have eb : ofV (ofU U e0) e2 = rV U e2 := by
    rw [ofV_eq w1.fo (by rw [w1.len]; exact h2)]; exact r1 e2 h2
  have ha : rV U e0 < N.length := by
    have := rV_le w.fo e0 (by rw [w.len]; exact h0)
    omega
  have g1 : gm (gN m N) (rV U e0) = rwM m (N.getD (rV U e0) []) := gm_gN ha
  unfold setS
  simp only [ea, eb]
  split
  · rename_i hu
    have hn : gm (gN m N) (rV (ofU (ofU U e0) e2) e0) x = none := by
      rw [r2 e0 h0, g1]; unfold rwM; rw [if_neg (fun h => h.2.2.2 hu)]
    have n1 := nxt_up (w.wg hm) hW hs (U' := ofU (ofU U e0) e2) fun u hu => r2 u (by rwa [gN_len] at hu)
    have n2 := nxt_put (w2.wg hm) n1.sym (by rw [gN_len]; exact h0) (by rw [gN_len]; exact h2) hn
    rw [r2 e0 h0, r2 e2 h2, g1] at n2
    have e : gN m (N.set (rV U e0) ((N.getD (rV U e0) []).set (cI x).toNat (rV U e2 : Nat))) = (gN m N).set (rV U e0) (updM (rwM m (N.getD (rV U e0) [])) x (rV U e2 : Nat)) := by
      rw [gN_set, rwM_set (w.at ha).1 hx]
    rw [e]
    exact n1.trans n2
  · rename_i hu
    have hul := w.rg ha hu
    have hgu : gm (gN m N) (rV U e0) x = some (rg (N.getD (rV U e0) []) x) := by
      rw [g1]; unfold rwM; rw [if_pos ⟨hx.1, hx.2.1, hx.2.2, hu⟩]
    generalize rg (N.getD (rV U e0) []) x = u0 at hul hu hgu
    obtain ⟨u, rfl⟩ := Int.eq_ofNat_of_zero_le (show 0 ≤ u0 by omega)
    rw [Int.toNat_natCast] at hul ⊢
    have w3 := w2.of hul
    have r3 : ∀ v, v < N.length → rV (ofU (ofU (ofU U e0) e2) u) v = rV U v := fun v hv => by
      rw [ofU_rV w2.fo (by rw [w2.len]; exact hul) (by rw [w2.len]; exact hv)]; exact r2 v hv
    have hr : ofV (ofU (ofU U e0) e2) u = rV U u := by
      rw [ofV_eq w2.fo (by rw [w2.len]; exact hul)]; exact r2 u hul
    rw [hr]
    have n1 := nxt_up (w.wg hm) hW hs (U' := ofU (ofU (ofU U e0) e2) u) fun v hv => r3 v (by rwa [gN_len] at hv)
    have hc : gm (gN m N) (rV (ofU (ofU (ofU U e0) e2) u) e0) x = some (u : Int) := by rw [r3 e0 h0]; exact hgu
    split
    · rename_i he
      have n2 := nxt_has n1.sym hc (by rw [Int.toNat_natCast, r3 u hul, r3 e2 h2]; exact he)
      exact n1.trans n2
    · rename_i hne
      have i1 := rV_idem w.fo (v := u) (by rw [w.len]; exact hul)
      have i2 := rV_idem w.fo (v := e2) (by rw [w.len]; exact h2)
      have l1 := rV_le w.fo u (by rw [w.len]; exact hul)
      have l2 := rV_le w.fo e2 (by rw [w.len]; exact h2)
      have hlt : min (rV U u) (rV U e2) < max (rV U u) (rV U e2) := by omega
      have hgl : max (rV U u) (rV U e2) < N.length := by omega
      have n2 := nxt_join (keep := min (rV U u) (rV U e2)) (gone := max (rV U u) (rV U e2)) (L := (ltn m).filter fun y => (rwM m (N.getD (max (rV U u) (rV U e2)) []) y).isSome) (w3.wg hm) hW n1.sym hc hlt (by
        rw [Int.toNat_natCast, r3 u hul, r3 e2 h2]
        rcases Nat.lt_or_gt_of_ne hne with h | h
        · exact .inr ⟨by omega, by omega⟩
        · exact .inl ⟨by omega, by omega⟩) fun y => by
        rw [gm_gN hgl, List.mem_filter]
        constructor
        · intro hy
          refine ⟨ltn_mem.2 ?_, hy⟩
          unfold rwM at hy
          split at hy
          · rename_i h; exact ⟨h.2.1, h.2.2.1⟩
          · cases hy
        · exact fun h => h.2
      rw [gm_gN hgl, ← psh_rev (ltn m) S fun y hy => ltn_mem.1 hy] at n2
      exact n1.trans n2
theorem setF_nxt {m : Nat} (hm : m ≤ 26) : ∀ (k : Nat) (N : List (List Int)) (U : List Int) (S : List E3) (Z : List (List Int) × List Int), WR m N U → OkS m N.length S → SymW (gN m N) U S.reverse → setF m k N U S = some Z → Nxt (gN m N) U S.reverse (gN m Z.1) Z.2 []
  | k, N, U, [], Z, w, _, hs, h => by
    have : Z = (N, U) := by cases k <;> exact (Option.some.inj h).symm
    subst this
    exact Nxt.refl hs
  | 0, N, U, t :: S, Z, w, _, _, h => by cases h
  | k + 1, N, U, t :: S, Z, w, hS, hs, h => by
    obtain ⟨h1, h2, h3, h4⟩ := setS_ok w hS
    rw [List.reverse_cons] at hs ⊢
    have n1 := setS_nxt hm w hS hs
    exact n1.trans (setF_nxt hm k _ _ _ Z h1 (by rw [h2]; exact h3) n1.sym h)
theorem setR_nxt {m : Nat} (hm : m ≤ 26) {N : List (List Int)} {U : List Int} {a b : Nat} {x : Int} (w : WR m N U) (ha : a < N.length) (hb : b < N.length) (hx : x ≠ 0 ∧ -(m : Int) ≤ x ∧ x ≤ m) (hs : SymW (gN m N) U []) :
    Nxt (gN m N) U [(a, x, b), (b, -x, a)] (gN m (setR m N U a x b).1) (setR m N U a x b).2 [] := by
  obtain ⟨h1, h2, h3⟩ := setR_some w ha hb hx
  have := setF_nxt hm _ N U [(b, -x, a), (a, x, b)] _ w (fun t ht => by
    simp only [List.mem_cons, List.not_mem_nil, or_false] at ht
    rcases ht with rfl | rfl
    · exact ⟨hb, ha, by simp only; omega, by simp only; omega, by simp only; omega⟩
    · exact ⟨ha, hb, hx⟩) (by
    show SymW (gN m N) U [(a, x, b), (b, -x, a)]
    exact sym_add hs a x b) h1
  exact this
end Go.Proofs.Ytneglephfhiamaa

namespace Go.Proofs.Ytneglephfhiamaa
open Go.Pv
abbrev CS := List (List Int) × List Int
def nwR (m : Nat) : List Int := List.replicate (2 * m) (-1)
def toV (N : List (List Int)) (U : List Int) (v : Nat) (x : Int) : Int := if rg (N.getD v []) x < 0 then -1 else (ofV U (rg (N.getD v []) x).toNat : Nat)
def toU (N : List (List Int)) (U : List Int) (v : Nat) (x : Int) : List Int := if rg (N.getD v []) x < 0 then U else ofU U (rg (N.getD v []) x).toNat
def frS (m : Nat) (s : CS) : CS := (s.1 ++ [nwR m], s.2 ++ [(s.2.length : Int)])
def fwdT (N : List (List Int)) : List Int → List Int → Nat → List Int × Nat × List Int
  | [], U, a => (U, a, [])
  | x :: r, U, a => if rg (N.getD a []) x < 0 then (U, a, x :: r) else fwdT N r (toU N (toU N U a x) a x) (toV N (toU N U a x) a x).toNat
def filT (m most : Nat) : List Int → CS → Nat → Option (CS × Nat × List Int)
  | [], s, a => some (s, a, [])
  | [x], s, a => some (s, a, [x])
  | x :: y :: r, s, a => if s.1.length < most then
      filT m most (y :: r) ((setR m (frS m s).1 (frS m s).2 a x s.1.length).1, ofU (setR m (frS m s).1 (frS m s).2 a x s.1.length).2 s.1.length) (ofV (setR m (frS m s).1 (frS m s).2 a x s.1.length).2 s.1.length)
    else none
def clT (m : Nat) (w : List Int) (v : Nat) (s : CS) (a : Nat) : List Int → CS
  | x :: _ => setR m s.1 s.2 a x v
  | [] => let U2 := ofU s.2 a
    let U3 := ofU U2 v
    if ofV s.2 a = ofV U2 v then (s.1, U3) else
    setR m s.1 (toU s.1 U3 (ofV s.2 a) (-w.getLastD 0)) (toV s.1 U3 (ofV s.2 a) (-w.getLastD 0)).toNat (w.getLastD 0) v
def trT (m most : Nat) (s : CS) (v : Nat) (w : List Int) : Option CS :=
  if w = [] then some (s.1, ofU s.2 v) else
  (filT m most (fwdT s.1 w (ofU s.2 v) (ofV s.2 v)).2.2 (s.1, (fwdT s.1 w (ofU s.2 v) (ofV s.2 v)).1) (fwdT s.1 w (ofU s.2 v) (ofV s.2 v)).2.1).map fun q => clT m w (ofV s.2 v) q.1 q.2.1 q.2.2
structure Okc (m : Nat) (s : CS) : Prop where
  wr : WR m s.1 s.2
  sy : SymW (gN m s.1) s.2 []
structure Ext (m : Nat) (s s' : CS) : Prop where
  len : s.1.length ≤ s'.1.length
  same : ∀ u v, u < s.1.length → v < s.1.length → rV s.2 u = rV s.2 v → rV s'.2 u = rV s'.2 v
  ed : ∀ u x v, u < s.1.length → v < s.1.length → Ed (gN m s.1) s.2 u x v → Ed (gN m s'.1) s'.2 u x v
theorem Ext.refl (m : Nat) (s : CS) : Ext m s s := ⟨Nat.le_refl _, fun _ _ _ _ h => h, fun _ _ _ _ _ h => h⟩
theorem Ext.trans {m : Nat} {s t u : CS} (h : Ext m s t) (k : Ext m t u) : Ext m s u :=
  ⟨Nat.le_trans h.len k.len, fun a b ha hb e => k.same a b (Nat.lt_of_lt_of_le ha h.len) (Nat.lt_of_lt_of_le hb h.len) (h.same a b ha hb e),
   fun a x b ha hb e => k.ed a x b (Nat.lt_of_lt_of_le ha h.len) (Nat.lt_of_lt_of_le hb h.len) (h.ed a x b ha hb e)⟩
theorem Ext.pth {m : Nat} {s t : CS} (h : Ext m s t) : ∀ {w : List Int} {u v : Nat}, u < s.1.length → v < s.1.length → Pth (gN m s.1) s.2 u w v → Pth (gN m t.1) t.2 u w v
  | [], u, v, hu, hv, hp => h.same u v hu hv hp
  | x :: w, u, v, hu, hv, ⟨q, a, b, c⟩ => by
    rw [gN_len] at a
    exact ⟨q, by rw [gN_len]; exact Nat.lt_of_lt_of_le a h.len, h.ed u x q hu a b, Ext.pth h a hv c⟩
theorem ext_of {m : Nat} {N : List (List Int)} {U : List Int} (w : WR m N U) (hm : m ≤ 26) {U' : List Int} (hr : ∀ u, u < N.length → rV U' u = rV U u) : Ext m (N, U) (N, U') :=
  ⟨Nat.le_refl _, fun u v hu hv e => by simp only at hu hv e ⊢; rw [hr u hu, hr v hv]; exact e, fun u x v hu hv e => (Ed.rv (w.wg hm) (fun u hu => hr u (by rwa [gN_len] at hu)) (by rw [gN_len]; exact hu) (by rw [gN_len]; exact hv)).2 e⟩
theorem okc_of {m : Nat} (hm : m ≤ 26) {s : CS} (h : Okc m s) {v : Nat} (hv : v < s.1.length) : Okc m (s.1, ofU s.2 v) ∧ (∀ u, u < s.1.length → rV (ofU s.2 v) u = rV s.2 u) := by
  have hr : ∀ u, u < s.1.length → rV (ofU s.2 v) u = rV s.2 u := fun u hu => ofU_rV h.wr.fo (by rw [h.wr.len]; exact hv) (by rw [h.wr.len]; exact hu)
  exact ⟨⟨h.wr.of hv, (nxt_up (h.wr.wg hm) (fun t ht => by cases ht) h.sy (U' := ofU s.2 v) fun u hu => hr u (by rwa [gN_len] at hu)).sym⟩, hr⟩
theorem okc_set {m : Nat} (hm : m ≤ 26) {s : CS} (h : Okc m s) {a b : Nat} {x : Int} (ha : a < s.1.length) (hb : b < s.1.length) (hx : x ≠ 0 ∧ -(m : Int) ≤ x ∧ x ≤ m) :
    Okc m (setR m s.1 s.2 a x b) ∧ (setR m s.1 s.2 a x b).1.length = s.1.length ∧ Ext m s (setR m s.1 s.2 a x b) ∧ Ed (gN m (setR m s.1 s.2 a x b).1) (setR m s.1 s.2 a x b).2 a x b := by
  obtain ⟨_, h2, h3⟩ := setR_some h.wr ha hb hx
  have n := setR_nxt hm h.wr ha hb hx h.sy
  refine ⟨⟨h2, n.sym⟩, h3, ⟨by rw [h3]; exact Nat.le_refl _, fun u v hu hv e => n.same u v (by rw [gN_len]; exact hu) (by rw [gN_len]; exact hv) e, fun u x v hu hv e => n.ed (by rw [gN_len]; exact hu) (by rw [gN_len]; exact hv) e⟩, ?_⟩
  exact pe_nil.1 (n.keep a x b (by rw [gN_len]; exact ha) (by rw [gN_len]; exact hb) (.inr ⟨(a, x, b), by simp, rfl, rfl, rfl⟩))
theorem rwM_new (m : Nat) : rwM m (nwR m) = nul := by
  funext x
  unfold rwM nul
  rw [if_neg]
  rintro ⟨_, _, _, h⟩
  apply h
  unfold rg nwR
  rw [List.getD_eq_getElem?_getD, List.getElem?_replicate]
  split <;> decide
theorem okc_fr {m : Nat} (hm : m ≤ 26) {s : CS} (h : Okc m s) : Okc m (frS m s) ∧ (frS m s).1.length = s.1.length + 1 ∧ Ext m s (frS m s) := by
  have hg : gN m (frS m s).1 = gN m s.1 ++ [nul] := by unfold frS gN; simp [rwM_new]
  have wg := h.wr.wg hm
  refine ⟨⟨⟨by unfold frS; simp [h.wr.len], h.wr.fo.snoc, fun r hr => ?_⟩, by rw [hg]; exact sym_place wg h.sy⟩, by unfold frS; simp, ⟨by unfold frS; simp, fun u v hu hv e => ?_, fun u x v hu hv e => ?_⟩⟩
  · unfold frS at hr ⊢
    simp only [List.mem_append, List.mem_cons, List.not_mem_nil, or_false, List.length_append, List.length_cons, List.length_nil] at hr ⊢
    rcases hr with hr | rfl
    · obtain ⟨h1, h2⟩ := h.wr.row r hr
      exact ⟨h1, fun d hd => by have := h2 d hd; omega⟩
    · refine ⟨by simp [nwR], fun d hd => ?_⟩
      have := List.eq_of_mem_replicate hd
      omega
  · have h1 := wg.placeR (u := u) (by rw [gN_len]; exact hu)
    have h2 := wg.placeR (u := v) (by rw [gN_len]; exact hv)
    show rV (s.2 ++ [(s.2.length : Int)]) u = rV (s.2 ++ [(s.2.length : Int)]) v
    rw [h1, h2]; exact e
  · rw [hg]
    exact (ed_place wg (by rw [gN_len]; omega) (by rw [gN_len]; omega)).2 ⟨by rw [gN_len]; exact hu, by rw [gN_len]; exact hv, e⟩
theorem rV_get {m : Nat} {s : CS} (h : Okc m s) {a : Nat} (ha : a < s.1.length) (hr : rV s.2 a = a) : s.2.getD a 0 = (a : Int) := by
  have := rV_root h.wr.fo a (by rw [h.wr.len]; exact ha)
  rwa [hr] at this
theorem to_spec {m : Nat} (hm : m ≤ 26) {s : CS} (h : Okc m s) {a : Nat} {x : Int} (ha : a < s.1.length) (hr : rV s.2 a = a) (hx : x ≠ 0 ∧ -(m : Int) ≤ x ∧ x ≤ m) (hd : ¬ rg (s.1.getD a []) x < 0) :
    ∃ b : Nat, toV s.1 s.2 a x = b ∧ b < s.1.length ∧ rV s.2 b = b ∧ Ed (gN m s.1) s.2 a x b ∧ Okc m (s.1, toU s.1 s.2 a x) ∧ ∀ u, u < s.1.length → rV (toU s.1 s.2 a x) u = rV s.2 u := by
  have hdl := h.wr.rg ha hd
  have he : gm (gN m s.1) (rV s.2 a) x = some (rg (s.1.getD a []) x) := by
    rw [hr, gm_gN ha]; unfold rwM; rw [if_pos ⟨hx.1, hx.2.1, hx.2.2, hd⟩]
  have h1 : toV s.1 s.2 a x = (rV s.2 (rg (s.1.getD a []) x).toNat : Nat) := by
    unfold toV; rw [if_neg hd, ofV_eq h.wr.fo (by rw [h.wr.len]; exact hdl)]
  have h2 : toU s.1 s.2 a x = ofU s.2 (rg (s.1.getD a []) x).toNat := by unfold toU; rw [if_neg hd]
  have hi := rV_idem h.wr.fo (v := (rg (s.1.getD a []) x).toNat) (by rw [h.wr.len]; exact hdl)
  have hle := rV_le h.wr.fo (rg (s.1.getD a []) x).toNat (by rw [h.wr.len]; exact hdl)
  rw [h1, h2]
  obtain ⟨g1, g2⟩ := okc_of hm h hdl
  exact ⟨_, rfl, by omega, hi, ⟨_, he, hi.symm⟩, g1, g2⟩
def Lt (m : Nat) (w : List Int) : Prop := ∀ x ∈ w, x ≠ 0 ∧ -(m : Int) ≤ x ∧ x ≤ m
theorem fwd_step {m : Nat} (hm : m ≤ 26) {N : List (List Int)} {U : List Int} (h : Okc m (N, U)) {a : Nat} {x : Int} (ha : a < N.length) (hr : rV U a = a) (hx : x ≠ 0 ∧ -(m : Int) ≤ x ∧ x ≤ m) (hd : ¬ rg (N.getD a []) x < 0) :
    ∃ b : Nat, toV N (toU N U a x) a x = b ∧ toV N U a x = b ∧ b < N.length ∧ Okc m (N, toU N U a x) ∧ rV (toU N U a x) a = a ∧ Okc m (N, toU N (toU N U a x) a x) ∧ (∀ u, u < N.length → rV (toU N (toU N U a x) a x) u = rV U u) ∧ rV U b = b ∧ Ed (gN m N) U a x b := by
  obtain ⟨b, h1, h2, h3, h4, h5, h6⟩ := to_spec hm h ha hr hx hd
  obtain ⟨b', k1, k2, k3, k4, k5, k6⟩ := to_spec hm h5 ha (by simp only; rw [h6 a ha]; exact hr) hx hd
  simp only at h1 h2 h3 h4 h5 h6 k1 k2 k3 k4 k5 k6
  have hdl : (rg (N.getD a []) x).toNat < N.length := h.wr.rg ha hd
  have hb : b' = b := by
    have e1 : toV N (toU N U a x) a x = (rV (toU N U a x) (rg (N.getD a []) x).toNat : Nat) := by
      unfold toV; rw [if_neg hd, ofV_eq h5.wr.fo (by rw [h5.wr.len]; exact hdl)]
    have e2 : toV N U a x = (rV U (rg (N.getD a []) x).toNat : Nat) := by
      unfold toV; rw [if_neg hd, ofV_eq h.wr.fo (by rw [h.wr.len]; exact hdl)]
    rw [h6 _ hdl] at e1
    omega
  subst hb
  exact ⟨b', k1, h1, h2, h5, by rw [h6 a ha]; exact hr, k5, fun u hu => by rw [k6 u hu, h6 u hu], h3, h4⟩
theorem fwd_spec {m : Nat} (hm : m ≤ 26) {N : List (List Int)} : ∀ (w : List Int) (U : List Int) (a : Nat), Okc m (N, U) → a < N.length → rV U a = a → Lt m w →
    Okc m (N, (fwdT N w U a).1) ∧ (∀ u, u < N.length → rV (fwdT N w U a).1 u = rV U u) ∧ (fwdT N w U a).2.1 < N.length ∧ rV U (fwdT N w U a).2.1 = (fwdT N w U a).2.1 ∧ ∃ p, w = p ++ (fwdT N w U a).2.2 ∧ Pth (gN m N) U a p (fwdT N w U a).2.1
  | [], U, a, h, ha, hr, _ => ⟨h, fun _ _ => rfl, ha, hr, [], rfl, rfl⟩
  | x :: w, U, a, h, ha, hr, hw => by
    unfold fwdT
    split
    · exact ⟨h, fun _ _ => rfl, ha, hr, [], rfl, rfl⟩
    · rename_i hd
      obtain ⟨b, h1, _, h2, _, _, h5, h6, h7, h8⟩ := fwd_step hm h ha hr (hw x (by simp)) hd
      rw [h1, Int.toNat_natCast]
      obtain ⟨g1, g2, g3, g4, p, g5, g6⟩ := fwd_spec hm w _ b h5 h2 (by rw [h6 b h2]; exact h7) fun y hy => hw y (by simp [hy])
      refine ⟨g1, fun u hu => by rw [g2 u hu, h6 u hu], g3, by rw [← h6 _ g3]; exact g4, x :: p, by rw [List.cons_append, ← g5], ⟨b, by rw [gN_len]; exact h2, h8, ?_⟩⟩
      exact Ext.pth (s := (N, toU N (toU N U a x) a x)) (t := (N, U)) (ext_of h5.wr hm fun u hu => (h6 u hu).symm) h2 g3 g6
end Go.Proofs.Ytneglephfhiamaa

namespace Go.Proofs.Ytneglephfhiamaa
open Go.Pv
theorem fil_step {m : Nat} (hm : m ≤ 26) {s : CS} (h : Okc m s) {a : Nat} {x : Int} (ha : a < s.1.length) (hx : x ≠ 0 ∧ -(m : Int) ≤ x ∧ x ≤ m) {t : CS} (ht : t = setR m (frS m s).1 (frS m s).2 a x s.1.length) :
    Okc m (frS m s) ∧ (frS m s).1.length = s.1.length + 1 ∧ Okc m t ∧ t.1.length = s.1.length + 1 ∧ ofV t.2 s.1.length < t.1.length ∧ rV (ofU t.2 s.1.length) (ofV t.2 s.1.length) = ofV t.2 s.1.length ∧ Okc m (t.1, ofU t.2 s.1.length) ∧ Ext m s (t.1, ofU t.2 s.1.length) ∧ Ed (gN m t.1) (ofU t.2 s.1.length) a x (ofV t.2 s.1.length) := by
  obtain ⟨h1, h2, h3⟩ := okc_fr hm h
  obtain ⟨k1, k2, k3, k4⟩ := okc_set hm h1 (a := a) (b := s.1.length) (x := x) (by omega) (by omega) hx
  rw [← ht] at k1 k2 k3 k4
  have hl : s.1.length < t.1.length := by omega
  obtain ⟨g1, g2⟩ := okc_of hm k1 hl
  have e1 : ofV t.2 s.1.length = rV t.2 s.1.length := ofV_eq k1.wr.fo (by rw [k1.wr.len]; exact hl)
  have hle := rV_le k1.wr.fo s.1.length (by rw [k1.wr.len]; exact hl)
  have hi := rV_idem k1.wr.fo (v := s.1.length) (by rw [k1.wr.len]; exact hl)
  have ex := ext_of (N := t.1) k1.wr hm (U' := ofU t.2 s.1.length) g2
  rw [e1]
  refine ⟨h1, h2, k1, by omega, by omega, by rw [g2 _ (by omega)]; exact hi, g1, h3.trans (k3.trans ex), ?_⟩
  have := ex.ed a x (rV t.2 s.1.length) (by simp only; omega) (by simp only; omega) (k4.mv rfl hi.symm)
  exact this
theorem fil_spec {m most : Nat} (hm : m ≤ 26) : ∀ (w : List Int) (s : CS) (a : Nat) (q : CS × Nat × List Int), Okc m s → a < s.1.length → rV s.2 a = a → Lt m w → filT m most w s a = some q →
    Okc m q.1 ∧ Ext m s q.1 ∧ q.2.1 < q.1.1.length ∧ rV q.1.2 q.2.1 = q.2.1 ∧ (w = [] → q = (s, a, [])) ∧ (w ≠ [] → ∃ p x, w = p ++ [x] ∧ q.2.2 = [x] ∧ Pth (gN m q.1.1) q.1.2 a p q.2.1)
  | [], s, a, q, h, ha, hr, _, hq => by
    cases hq
    exact ⟨h, Ext.refl _ _, ha, hr, fun _ => rfl, fun h => absurd rfl h⟩
  | [x], s, a, q, h, ha, hr, _, hq => by
    cases hq
    exact ⟨h, Ext.refl _ _, ha, hr, fun h => absurd h (by simp), fun _ => ⟨[], x, rfl, rfl, rfl⟩⟩
  | x :: y :: r, s, a, q, h, ha, hr, hw, hq => by
    unfold filT at hq
    split at hq
    · obtain ⟨t, ht⟩ : ∃ t, t = setR m (frS m s).1 (frS m s).2 a x s.1.length := ⟨_, rfl⟩
      rw [← ht] at hq
      obtain ⟨_, _, _, k2, k3, k4, k5, k6, k7⟩ := fil_step hm h ha (hw x (by simp)) ht
      obtain ⟨g1, g2, g3, g4, _, g6⟩ := fil_spec hm (y :: r) _ _ q k5 k3 k4 (fun z hz => hw z (by simp [hz])) hq
      refine ⟨g1, k6.trans g2, g3, g4, fun h => absurd h (by simp), fun _ => ?_⟩
      obtain ⟨p, z, e1, e2, e3⟩ := g6 (by simp)
      refine ⟨x :: p, z, by rw [e1]; rfl, e2, ⟨ofV t.2 s.1.length, by rw [gN_len]; exact Nat.lt_of_lt_of_le k3 g2.len, g2.ed _ _ _ (by simp only; omega) k3 k7, e3⟩⟩
    · cases hq
theorem back_ed {m : Nat} {s : CS} (h : Okc m s) {a p : Nat} {x : Int} (hx : x ≠ 0 ∧ -(m : Int) ≤ x ∧ x ≤ m) (hp : p < s.1.length) (ha : a < s.1.length) (hr : rV s.2 a = a) (he : Ed (gN m s.1) s.2 p x a) : ¬ rg (s.1.getD a []) (-x) < 0 := by
  have h1 := pe_nil.1 (h.sy p x a (by rw [gN_len]; exact hp) (by rw [gN_len]; exact ha) (pe_nil.2 he))
  obtain ⟨d, h2, _⟩ := h1
  rw [hr, gm_gN ha] at h2
  unfold rwM at h2
  split at h2
  · rename_i h3; exact h3.2.2.2
  · cases h2
theorem getLastD_snoc (p : List Int) (x : Int) : (p ++ [x]).getLastD 0 = x := by simp
theorem Pth.cut {G : List Mp} {U : List Int} {x : Int} : ∀ {p : List Int} {u v : Nat}, u < G.length → Pth G U u (p ++ [x]) v → ∃ q, q < G.length ∧ Pth G U u p q ∧ Ed G U q x v
  | [], u, v, hu, ⟨q, h1, h2, h3⟩ => ⟨u, hu, rfl, h2.mv rfl h3⟩
  | y :: p, u, v, hu, ⟨q, h1, h2, h3⟩ => by
    obtain ⟨q', g1, g2, g3⟩ := Pth.cut (p := p) h1 h3
    exact ⟨q', g1, ⟨q, h1, h2, g2⟩, g3⟩
theorem cl_nil {m : Nat} (hm : m ≤ 26) {s : CS} (h : Okc m s) {w : List Int} (hw : Lt m w) (hne : w ≠ []) {v a : Nat} (hv : v < s.1.length) (ha : a < s.1.length) (hr : rV s.2 a = a) (hp : Pth (gN m s.1) s.2 v w a) :
    ofV s.2 a = a ∧ Okc m (s.1, ofU s.2 a) ∧ Okc m (s.1, ofU (ofU s.2 a) v) ∧ ofV (ofU s.2 a) v = rV s.2 v ∧ rV (ofU (ofU s.2 a) v) a = a ∧ (∀ u, u < s.1.length → rV (ofU (ofU s.2 a) v) u = rV s.2 u) ∧
    (w.getLastD 0 ≠ 0 ∧ -(m : Int) ≤ w.getLastD 0 ∧ w.getLastD 0 ≤ m) ∧ ¬ rg (s.1.getD a []) (-w.getLastD 0) < 0 ∧
    ∃ b : Nat, toV s.1 (ofU (ofU s.2 a) v) a (-w.getLastD 0) = b ∧ b < s.1.length ∧ Okc m (s.1, toU s.1 (ofU (ofU s.2 a) v) a (-w.getLastD 0)) ∧ (∀ u, u < s.1.length → rV (toU s.1 (ofU (ofU s.2 a) v) a (-w.getLastD 0)) u = rV s.2 u) ∧ ∃ p q, w = p ++ [w.getLastD 0] ∧ q < s.1.length ∧ Pth (gN m s.1) s.2 v p q ∧ rV s.2 q = rV s.2 b := by
  obtain ⟨p, x, rfl⟩ : ∃ p x, w = p ++ [x] := ⟨w.dropLast, w.getLast hne, (List.dropLast_concat_getLast hne).symm⟩
  rw [getLastD_snoc]
  have hx := hw x (by simp)
  obtain ⟨g1, g2⟩ := okc_of hm h ha
  obtain ⟨k1, k2⟩ := okc_of hm g1 (v := v) hv
  simp only at k1 k2
  have hall : ∀ u, u < s.1.length → rV (ofU (ofU s.2 a) v) u = rV s.2 u := fun u hu => by rw [k2 u hu, g2 u hu]
  obtain ⟨q, q1, q2, q3⟩ := hp.cut (by rw [gN_len]; exact hv)
  rw [gN_len] at q1
  have hb := back_ed h hx q1 ha hr q3
  have hx2 : -x ≠ 0 ∧ -(m : Int) ≤ -x ∧ -x ≤ m := ⟨by omega, by omega, by omega⟩
  obtain ⟨b, t1, t2, t3, t4, t5, t6⟩ := to_spec hm k1 ha (by simp only; rw [hall a ha]; exact hr) hx2 hb
  simp only at t1 t2 t3 t4 t5 t6
  refine ⟨by rw [ofV_eq h.wr.fo (by rw [h.wr.len]; exact ha)]; exact hr, g1, k1, by rw [ofV_eq g1.wr.fo (by rw [g1.wr.len]; exact hv)]; exact g2 v hv, by rw [hall a ha]; exact hr, hall, hx, hb, b, t1, t2, t5, fun u hu => by rw [t6 u hu, hall u hu], p, q, rfl, q1, q2, ?_⟩
  have h1 := pe_nil.1 (h.sy q x a (by rw [gN_len]; exact q1) (by rw [gN_len]; exact ha) (pe_nil.2 q3))
  obtain ⟨d, d1, d2⟩ := h1
  obtain ⟨e, e1, e2⟩ := t4
  rw [hall a ha] at e1
  rw [d1] at e1
  obtain rfl := Option.some.inj e1
  have hd := ((h.wr.wg hm).ent _ _ _ (by rw [gN_len, hr]; exact ha) d1).2.1
  rw [gN_len] at hd
  rw [hall _ hd, hall _ t2] at e2
  rw [← d2, e2]
theorem tr_spec {m most : Nat} (hm : m ≤ 26) {s : CS} (h : Okc m s) {v : Nat} (hv : v < s.1.length) {w : List Int} (hw : Lt m w) {s' : CS} (ht : trT m most s v w = some s') :
    Okc m s' ∧ Ext m s s' ∧ Pth (gN m s'.1) s'.2 v w v := by
  obtain ⟨g1, g2⟩ := okc_of hm h hv
  have ex0 := ext_of (N := s.1) h.wr hm (U' := ofU s.2 v) g2
  have ev : ofV s.2 v = rV s.2 v := ofV_eq h.wr.fo (by rw [h.wr.len]; exact hv)
  have hle := rV_le h.wr.fo v (by rw [h.wr.len]; exact hv)
  have hi := rV_idem h.wr.fo (v := v) (by rw [h.wr.len]; exact hv)
  unfold trT at ht
  split at ht
  · rename_i hn
    subst hn
    obtain rfl := Option.some.inj ht
    exact ⟨g1, ex0, rfl⟩
  · rename_i hn
    rw [ev] at ht
    obtain ⟨v1, hv1⟩ : ∃ v1, rV s.2 v = v1 := ⟨_, rfl⟩
    rw [hv1] at ht hi hle
    have hv1l : v1 < s.1.length := by omega
    have hr1 : rV (ofU s.2 v) v1 = v1 := by rw [g2 v1 hv1l]; exact hi
    obtain ⟨f1, f2, f3, f4, p, f5, f6⟩ := fwd_spec hm w (ofU s.2 v) v1 g1 hv1l hr1 hw
    generalize fwdT s.1 w (ofU s.2 v) v1 = F at ht f1 f2 f3 f4 f5 f6
    obtain ⟨U1, a, r⟩ := F
    simp only at ht f1 f2 f3 f4 f5 f6
    have ex1 : Ext m (s.1, ofU s.2 v) (s.1, U1) := ext_of (N := s.1) g1.wr hm (U' := U1) f2
    have hra : rV U1 a = a := by rw [f2 a f3]; exact f4
    cases hq : filT m most r (s.1, U1) a with
    | none => rw [hq] at ht; cases ht
    | some q =>
      rw [hq] at ht
      simp only [Option.map_some, Option.some.injEq] at ht
      obtain ⟨k1, k2, k3, k4, k5, k6⟩ := fil_spec hm r (s.1, U1) a q f1 f3 hra (fun z hz => hw z (by rw [f5]; simp [hz])) hq
      have exq := ex0.trans (ex1.trans k2)
      have hvq : rV q.1.2 v = rV q.1.2 v1 := exq.same v v1 hv hv1l (by rw [hv1]; exact hi.symm)
      have hl : s.1.length ≤ q.1.1.length := exq.len
      have pq : Pth (gN m q.1.1) q.1.2 v1 p a := k2.pth (s := (s.1, U1)) hv1l f3 (ex1.pth (s := (s.1, ofU s.2 v)) hv1l f3 f6)
      by_cases hrn : r = []
      · have hqe := k5 hrn
        subst hqe
        subst hrn
        simp only [List.append_nil] at f5
        subst f5
        simp only at hvq k1 k3 k4 hl pq exq
        obtain ⟨c1, c2, c3, c4, c5, c6, c7, c8, b, c9, c10, c11, c12, p2, q2, c13, c14, c15, c16⟩ := cl_nil hm k1 hw hn (v := v1) hv1l k3 k4 pq
        simp only at c1 c2 c3 c4 c5 c6 c8 c9 c10 c11 c12 c14 c15 c16
        unfold clT at ht
        simp only [c1, c4] at ht
        split at ht
        · rename_i he
          subst ht
          have e3 : Ext m (s.1, U1) (s.1, ofU (ofU U1 a) v1) := ext_of (N := s.1) k1.wr hm c6
          refine ⟨c3, exq.trans e3, ?_⟩
          have := e3.pth (w := w) (u := v1) (v := a) hv1l k3 pq
          exact this.mv (by rw [c6 v1 hv1l, c6 v hv]; exact hvq.symm) (by rw [c6 a k3, c6 v hv, k4, hvq]; exact he)
        · rename_i he
          rw [c9, Int.toNat_natCast] at ht
          have e3 : Ext m (s.1, U1) (s.1, toU s.1 (ofU (ofU U1 a) v1) a (-w.getLastD 0)) := ext_of (N := s.1) k1.wr hm c12
          obtain ⟨l1, l2, l3, l4⟩ := okc_set hm c11 (a := b) (b := v1) c10 hv1l c7
          simp only at ht l1 l2 l3 l4
          rw [ht] at l1 l2 l3 l4
          have e4 := e3.trans l3
          refine ⟨l1, exq.trans e4, ?_⟩
          have h1 := e4.pth (w := p2) (u := v1) (v := q2) hv1l c14 c15
          have h2 : rV s'.2 q2 = rV s'.2 b := e4.same q2 b c14 c10 c16
          have h3 : Pth (gN m s'.1) s'.2 v1 (p2 ++ [w.getLastD 0]) v1 := Pth.snoc (by rw [gN_len, l2]; exact c14) (by rw [gN_len, l2]; exact hv1l) (l4.mv h2.symm rfl) h1
          rw [← c13] at h3
          have h4 : rV s'.2 v1 = rV s'.2 v := e4.same v1 v hv1l hv hvq.symm
          exact h3.mv h4 h4
      · obtain ⟨p2, x, e1, e2, e3⟩ := k6 hrn
        unfold clT at ht
        rw [e2] at ht
        simp only at ht
        have hx := hw x (by rw [f5, e1]; simp)
        obtain ⟨l1, l2, l3, l4⟩ := okc_set hm k1 (a := q.2.1) (b := v1) k3 (by omega) hx
        rw [ht] at l1 l2 l3 l4
        refine ⟨l1, exq.trans l3, ?_⟩
        have h1 := l3.pth (w := p) (u := v1) (v := a) (by omega) (Nat.lt_of_lt_of_le f3 k2.len) pq
        have h2 := l3.pth (w := p2) (u := a) (v := q.2.1) (Nat.lt_of_lt_of_le f3 k2.len) k3 e3
        have h3 : Pth (gN m s'.1) s'.2 v1 (p ++ p2) q.2.1 := by
          have app : ∀ {p : List Int} {u : Nat}, Pth (gN m s'.1) s'.2 u p a → Pth (gN m s'.1) s'.2 u (p ++ p2) q.2.1 := by
            intro p
            induction p with
            | nil => intro u h; exact h2.mv h.symm rfl
            | cons y p ih => intro u ⟨q, a, b, c⟩; exact ⟨q, a, b, ih c⟩
          exact app h1
        have h5 : Pth (gN m s'.1) s'.2 v1 (p ++ p2 ++ [x]) v1 := Pth.snoc (by rw [gN_len, l2]; exact k3) (by rw [gN_len, l2]; omega) l4 h3
        rw [List.append_assoc, ← e1, ← f5] at h5
        have h4 : rV s'.2 v1 = rV s'.2 v := l3.same v1 v (by omega) (by omega) hvq.symm
        exact h5.mv h4 h4
end Go.Proofs.Ytneglephfhiamaa

namespace Go.Proofs.Ytneglephfhiamaa
open Go.Pv
def relT (m most v : Nat) : List (List Int) → CS → Option CS
  | [], s => some s
  | w :: r, s => if ofV s.2 v = v then (trT m most (s.1, ofU s.2 v) v w).bind (relT m most v r) else relT m most v r (s.1, ofU s.2 v)
def letT (m most v : Nat) : List Int → CS → Option CS
  | [], s => some s
  | x :: r, s => if ofV s.2 v = v then
      if x = 0 then letT m most v r (s.1, ofU s.2 v) else
      if rg (s.1.getD v []) x < 0 then
        if s.1.length < most then letT m most v r (setR m (frS m (s.1, ofU s.2 v)).1 (frS m (s.1, ofU s.2 v)).2 v x s.1.length) else none
      else letT m most v r (s.1, toU s.1 (ofU s.2 v) v x)
    else some (s.1, ofU s.2 v)
def subT (m most : Nat) : List (List Int) → CS → Option CS
  | [], s => some s
  | w :: r, s => (trT m most s 0 w).bind (subT m most r)
def cntF (m most : Nat) (rels : List (List Int)) : Nat → Nat → CS → Option CS
  | 0, _, s => some s
  | k + 1, v, s => if v < s.1.length then ((relT m most v rels s).bind (letT m most v (ltn m))).bind (cntF m most rels k (v + 1)) else some s
def cntT (m most : Nat) (rels subs : List (List Int)) : Option CS := (subT m most subs (frS m ([], []))).bind (cntF m most rels (most + 1) 0)
theorem Ext.dead {m : Nat} {s t : CS} (e : Ext m s t) (h : Okc m s) (k : Okc m t) {v : Nat} (hv : v < s.1.length) (hd : rV s.2 v ≠ v) : rV t.2 v ≠ v := by
  have h1 := rV_le h.wr.fo v (by rw [h.wr.len]; exact hv)
  have hi := rV_idem h.wr.fo (v := v) (by rw [h.wr.len]; exact hv)
  have h2 := e.same v (rV s.2 v) hv (by omega) hi.symm
  have h3 := rV_le k.wr.fo (rV s.2 v) (by rw [k.wr.len]; have := e.len; omega)
  omega
theorem rel_spec {m most : Nat} (hm : m ≤ 26) {v : Nat} : ∀ (rels : List (List Int)) (s s' : CS), Okc m s → v < s.1.length → (∀ w ∈ rels, Lt m w) → relT m most v rels s = some s' →
    Okc m s' ∧ Ext m s s' ∧ (rV s'.2 v = v → ∀ w ∈ rels, Pth (gN m s'.1) s'.2 v w v)
  | [], s, s', h, hv, _, hq => by
    cases hq
    exact ⟨h, Ext.refl _ _, fun _ w hw => by cases hw⟩
  | w :: r, s, s', h, hv, hr, hq => by
    obtain ⟨g1, g2⟩ := okc_of hm h hv
    have ex0 := ext_of (N := s.1) h.wr hm (U' := ofU s.2 v) g2
    have ev : ofV s.2 v = rV s.2 v := ofV_eq h.wr.fo (by rw [h.wr.len]; exact hv)
    unfold relT at hq
    rw [ev] at hq
    split at hq
    · cases ht : trT m most (s.1, ofU s.2 v) v w with
      | none => rw [ht] at hq; cases hq
      | some s1 =>
        rw [ht] at hq
        obtain ⟨k1, k2, k3⟩ := tr_spec hm g1 hv (hr w (by simp)) ht
        have hv1 : v < s1.1.length := Nat.lt_of_lt_of_le hv k2.len
        obtain ⟨l1, l2, l3⟩ := rel_spec hm r s1 s' k1 hv1 (fun w hw => hr w (by simp [hw])) hq
        refine ⟨l1, ex0.trans (k2.trans l2), fun hv' w' hw' => ?_⟩
        rcases List.mem_cons.1 hw' with rfl | hw'
        · exact l2.pth hv1 hv1 k3
        · exact l3 hv' w' hw'
    · rename_i hd
      obtain ⟨l1, l2, l3⟩ := rel_spec hm r (s.1, ofU s.2 v) s' g1 hv (fun w hw => hr w (by simp [hw])) hq
      exact ⟨l1, ex0.trans l2, fun hv' => absurd hv' ((ex0.trans l2).dead h l1 hv hd)⟩
theorem let_spec {m most : Nat} (hm : m ≤ 26) {v : Nat} : ∀ (L : List Int) (s s' : CS), Okc m s → v < s.1.length → (∀ x ∈ L, -(m : Int) ≤ x ∧ x ≤ m) → letT m most v L s = some s' →
    Okc m s' ∧ Ext m s s' ∧ (rV s'.2 v = v → ∀ x ∈ L, x ≠ 0 → ∃ b, b < s'.1.length ∧ Ed (gN m s'.1) s'.2 v x b)
  | [], s, s', h, hv, _, hq => by
    cases hq
    exact ⟨h, Ext.refl _ _, fun _ w hw => by cases hw⟩
  | x :: r, s, s', h, hv, hr, hq => by
    obtain ⟨g1, g2⟩ := okc_of hm h hv
    have ex0 := ext_of (N := s.1) h.wr hm (U' := ofU s.2 v) g2
    have ev : ofV s.2 v = rV s.2 v := ofV_eq h.wr.fo (by rw [h.wr.len]; exact hv)
    obtain ⟨x1, x2⟩ := hr x (by simp)
    unfold letT at hq
    rw [ev] at hq
    split at hq
    · rename_i hroot
      have hr1 : rV (ofU s.2 v) v = v := by rw [g2 v hv]; exact hroot
      split at hq
      · rename_i hx0
        obtain ⟨l1, l2, l3⟩ := let_spec hm r (s.1, ofU s.2 v) s' g1 hv (fun w hw => hr w (by simp [hw])) hq
        refine ⟨l1, ex0.trans l2, fun hv' y hy hy0 => ?_⟩
        rcases List.mem_cons.1 hy with rfl | hy
        · exact absurd hx0 hy0
        · exact l3 hv' y hy hy0
      · rename_i hx0
        split at hq
        · split at hq
          · obtain ⟨f1, f2, f3⟩ := okc_fr hm g1
            obtain ⟨k1, k2, k3, k4⟩ := okc_set hm f1 (a := v) (b := s.1.length) (x := x) (by simp only at f2; omega) (by simp only at f2; omega) ⟨hx0, x1, x2⟩
            have hv1 : v < (setR m (frS m (s.1, ofU s.2 v)).1 (frS m (s.1, ofU s.2 v)).2 v x s.1.length).1.length := by rw [k2, f2]; simp only; omega
            have hb1 : s.1.length < (setR m (frS m (s.1, ofU s.2 v)).1 (frS m (s.1, ofU s.2 v)).2 v x s.1.length).1.length := by rw [k2, f2]; simp
            obtain ⟨l1, l2, l3⟩ := let_spec hm r _ s' k1 hv1 (fun w hw => hr w (by simp [hw])) hq
            refine ⟨l1, ex0.trans (f3.trans (k3.trans l2)), fun hv' y hy hy0 => ?_⟩
            rcases List.mem_cons.1 hy with rfl | hy
            · exact ⟨s.1.length, Nat.lt_of_lt_of_le hb1 l2.len, l2.ed _ _ _ hv1 hb1 k4⟩
            · exact l3 hv' y hy hy0
          · cases hq
        · rename_i hd
          obtain ⟨b, t1, t2, t3, t4, t5, t6⟩ := to_spec hm g1 hv hr1 ⟨hx0, x1, x2⟩ hd
          simp only at t1 t2 t3 t4 t5 t6
          have ex1 := ext_of (N := s.1) g1.wr hm (U' := toU s.1 (ofU s.2 v) v x) t6
          obtain ⟨l1, l2, l3⟩ := let_spec hm r (s.1, toU s.1 (ofU s.2 v) v x) s' t5 hv (fun w hw => hr w (by simp [hw])) hq
          refine ⟨l1, ex0.trans (ex1.trans l2), fun hv' y hy hy0 => ?_⟩
          rcases List.mem_cons.1 hy with rfl | hy
          · exact ⟨b, Nat.lt_of_lt_of_le t2 (ex1.trans l2).len, (ex1.trans l2).ed _ _ _ hv t2 t4⟩
          · exact l3 hv' y hy hy0
    · rename_i hd
      cases hq
      exact ⟨g1, ex0, fun hv' => absurd hv' (ex0.dead h g1 hv hd)⟩
theorem fil_len {m most : Nat} (hm : m ≤ 26) : ∀ (w : List Int) (s : CS) (a : Nat) (q : CS × Nat × List Int), Okc m s → a < s.1.length → Lt m w → s.1.length ≤ most → filT m most w s a = some q → q.1.1.length ≤ most
  | [], s, a, q, _, _, _, hl, hq => by cases hq; exact hl
  | [x], s, a, q, _, _, _, hl, hq => by cases hq; exact hl
  | x :: y :: r, s, a, q, h, ha, hw, hl, hq => by
    unfold filT at hq
    split at hq
    · rename_i hlt
      obtain ⟨t, ht⟩ : ∃ t, t = setR m (frS m s).1 (frS m s).2 a x s.1.length := ⟨_, rfl⟩
      rw [← ht] at hq
      obtain ⟨_, _, _, k2, k3, k4, k5, k6, k7⟩ := fil_step hm h ha (hw x (by simp)) ht
      exact fil_len hm (y :: r) _ _ q k5 k3 (fun z hz => hw z (by simp [hz])) (by simp only; omega) hq
    · cases hq
theorem tr_len {m most : Nat} (hm : m ≤ 26) {s : CS} (h : Okc m s) {v : Nat} (hv : v < s.1.length) {w : List Int} (hw : Lt m w) (hl : s.1.length ≤ most) {s' : CS} (ht : trT m most s v w = some s') : s'.1.length ≤ most := by
  obtain ⟨g1, g2⟩ := okc_of hm h hv
  have ev : ofV s.2 v = rV s.2 v := ofV_eq h.wr.fo (by rw [h.wr.len]; exact hv)
  have hle := rV_le h.wr.fo v (by rw [h.wr.len]; exact hv)
  have hi := rV_idem h.wr.fo (v := v) (by rw [h.wr.len]; exact hv)
  unfold trT at ht
  split at ht
  · cases ht; exact hl
  · rename_i hn
    rw [ev] at ht
    obtain ⟨v1, hv1⟩ : ∃ v1, rV s.2 v = v1 := ⟨_, rfl⟩
    rw [hv1] at ht hi hle
    have hv1l : v1 < s.1.length := by omega
    have hr1 : rV (ofU s.2 v) v1 = v1 := by rw [g2 v1 hv1l]; exact hi
    obtain ⟨f1, f2, f3, f4, p, f5, f6⟩ := fwd_spec hm w (ofU s.2 v) v1 g1 hv1l hr1 hw
    generalize fwdT s.1 w (ofU s.2 v) v1 = F at ht f1 f2 f3 f4 f5 f6
    obtain ⟨U1, a, r⟩ := F
    simp only at ht f1 f2 f3 f4 f5 f6
    have hra : rV U1 a = a := by rw [f2 a f3]; exact f4
    cases hq : filT m most r (s.1, U1) a with
    | none => rw [hq] at ht; cases ht
    | some q =>
      rw [hq] at ht
      simp only [Option.map_some, Option.some.injEq] at ht
      have hwr : Lt m r := fun z hz => hw z (by rw [f5]; simp [hz])
      have hql := fil_len hm r (s.1, U1) a q f1 f3 hwr hl hq
      obtain ⟨k1, k2, k3, k4, k5, k6⟩ := fil_spec hm r (s.1, U1) a q f1 f3 hra hwr hq
      have hl2 : s.1.length ≤ q.1.1.length := k2.len
      by_cases hrn : r = []
      · have hqe := k5 hrn
        subst hqe
        subst hrn
        simp only [List.append_nil] at f5
        subst f5
        have ex1 : Ext m (s.1, ofU s.2 v) (s.1, U1) := ext_of (N := s.1) g1.wr hm (U' := U1) f2
        have pq := ex1.pth (w := w) (u := v1) (v := a) hv1l f3 f6
        obtain ⟨c1, c2, c3, c4, c5, c6, c7, c8, b, c9, c10, c11, c12, _⟩ := cl_nil hm k1 hw hn (v := v1) hv1l k3 k4 pq
        simp only at c1 c9 c10 c11
        unfold clT at ht
        simp only [c1] at ht
        split at ht
        · subst ht; exact hl
        · rw [c9, Int.toNat_natCast] at ht
          rw [← ht, (okc_set hm c11 (a := b) (b := v1) c10 hv1l c7).2.1]
          exact hl
      · obtain ⟨p2, x, e1, e2, e3⟩ := k6 hrn
        unfold clT at ht
        rw [e2] at ht
        simp only at ht
        have hx := hw x (by rw [f5, e1]; simp)
        rw [← ht, (okc_set hm k1 (a := q.2.1) (b := v1) k3 (by omega) hx).2.1]
        exact hql
theorem rel_len {m most : Nat} (hm : m ≤ 26) {v : Nat} : ∀ (rels : List (List Int)) (s s' : CS), Okc m s → v < s.1.length → (∀ w ∈ rels, Lt m w) → s.1.length ≤ most → relT m most v rels s = some s' → s'.1.length ≤ most
  | [], s, s', _, _, _, hl, hq => by cases hq; exact hl
  | w :: r, s, s', h, hv, hr, hl, hq => by
    obtain ⟨g1, g2⟩ := okc_of hm h hv
    unfold relT at hq
    split at hq
    · cases ht : trT m most (s.1, ofU s.2 v) v w with
      | none => rw [ht] at hq; cases hq
      | some s1 =>
        rw [ht] at hq
        obtain ⟨k1, k2, k3⟩ := tr_spec hm g1 hv (hr w (by simp)) ht
        exact rel_len hm r s1 s' k1 (Nat.lt_of_lt_of_le hv k2.len) (fun w hw => hr w (by simp [hw])) (tr_len hm g1 hv (hr w (by simp)) hl ht) hq
    · exact rel_len hm r (s.1, ofU s.2 v) s' g1 hv (fun w hw => hr w (by simp [hw])) hl hq
theorem let_len {m most : Nat} (hm : m ≤ 26) {v : Nat} : ∀ (L : List Int) (s s' : CS), Okc m s → v < s.1.length → (∀ x ∈ L, -(m : Int) ≤ x ∧ x ≤ m) → s.1.length ≤ most → letT m most v L s = some s' → s'.1.length ≤ most
  | [], s, s', _, _, _, hl, hq => by cases hq; exact hl
  | x :: r, s, s', h, hv, hr, hl, hq => by
    obtain ⟨g1, g2⟩ := okc_of hm h hv
    obtain ⟨x1, x2⟩ := hr x (by simp)
    have ev : ofV s.2 v = rV s.2 v := ofV_eq h.wr.fo (by rw [h.wr.len]; exact hv)
    unfold letT at hq
    split at hq
    · rename_i hroot
      have hr1 : rV (ofU s.2 v) v = v := by rw [g2 v hv, ← ev]; exact hroot
      split at hq
      · exact let_len hm r (s.1, ofU s.2 v) s' g1 hv (fun w hw => hr w (by simp [hw])) hl hq
      · rename_i hx0
        split at hq
        · split at hq
          · rename_i hlt
            obtain ⟨f1, f2, f3⟩ := okc_fr hm g1
            obtain ⟨k1, k2, k3, k4⟩ := okc_set hm f1 (a := v) (b := s.1.length) (x := x) (by simp only at f2; omega) (by simp only at f2; omega) ⟨hx0, x1, x2⟩
            simp only at f2
            exact let_len hm r _ s' k1 (by rw [k2, f2]; omega) (fun w hw => hr w (by simp [hw])) (by rw [k2, f2]; omega) hq
          · cases hq
        · rename_i hd
          obtain ⟨b, t1, t2, t3, t4, t5, t6⟩ := to_spec hm g1 hv hr1 ⟨hx0, x1, x2⟩ hd
          exact let_len hm r (s.1, toU s.1 (ofU s.2 v) v x) s' t5 hv (fun w hw => hr w (by simp [hw])) hl hq
    · cases hq; exact hl
def Done (m : Nat) (rels : List (List Int)) (s : CS) (u : Nat) : Prop := rV s.2 u = u → (∀ w ∈ rels, Pth (gN m s.1) s.2 u w u) ∧ ∀ x, x ≠ 0 → -(m : Int) ≤ x → x ≤ m → ∃ b, b < s.1.length ∧ Ed (gN m s.1) s.2 u x b
theorem Done.ext {m : Nat} {rels : List (List Int)} {s t : CS} {u : Nat} (d : Done m rels s u) (e : Ext m s t) (h : Okc m s) (k : Okc m t) (hu : u < s.1.length) : Done m rels t u := fun hr => by
  by_cases hs : rV s.2 u = u
  · obtain ⟨d1, d2⟩ := d hs
    exact ⟨fun w hw => e.pth hu hu (d1 w hw), fun x h0 h1 h2 => let ⟨b, b1, b2⟩ := d2 x h0 h1 h2; ⟨b, Nat.lt_of_lt_of_le b1 e.len, e.ed _ _ _ hu b1 b2⟩⟩
  · exact absurd hr (e.dead h k hu hs)
theorem cnt_spec {m most : Nat} (hm : m ≤ 26) {rels : List (List Int)} (hr : ∀ w ∈ rels, Lt m w) : ∀ (k v : Nat) (s s' : CS), Okc m s → s.1.length ≤ most → most < v + k → (∀ u, u < v → u < s.1.length → Done m rels s u) → cntF m most rels k v s = some s' →
    Okc m s' ∧ Ext m s s' ∧ s'.1.length ≤ most ∧ ∀ u, u < s'.1.length → Done m rels s' u
  | 0, v, s, s', h, hl, hk, hd, hq => by
    cases hq
    exact ⟨h, Ext.refl _ _, hl, fun u hu => hd u (by omega) hu⟩
  | k + 1, v, s, s', h, hl, hk, hd, hq => by
    unfold cntF at hq
    split at hq
    · rename_i hv
      cases h1 : relT m most v rels s with
      | none => rw [h1] at hq; cases hq
      | some s1 =>
        rw [h1] at hq
        simp only [Option.bind_some] at hq
        obtain ⟨a1, a2, a3⟩ := rel_spec hm rels s s1 h hv hr h1
        have al := rel_len hm rels s s1 h hv hr hl h1
        have hv1 : v < s1.1.length := Nat.lt_of_lt_of_le hv a2.len
        cases h2 : letT m most v (ltn m) s1 with
        | none => rw [h2] at hq; cases hq
        | some s2 =>
          rw [h2] at hq
          simp only [Option.bind_some] at hq
          obtain ⟨b1, b2, b3⟩ := let_spec hm (ltn m) s1 s2 a1 hv1 (fun x hx => ltn_mem.1 hx) h2
          have bl := let_len hm (ltn m) s1 s2 a1 hv1 (fun x hx => ltn_mem.1 hx) al h2
          obtain ⟨c1, c2, c3, c4⟩ := cnt_spec hm hr k (v + 1) s2 s' b1 bl (by omega) (fun u hu hul => by
            by_cases e : u = v
            · subst e
              intro hroot
              refine ⟨fun w hw => ?_, fun x h0 h1 h2 => b3 hroot x (ltn_mem.2 ⟨h1, h2⟩) h0⟩
              by_cases hs : rV s1.2 u = u
              · exact b2.pth hv1 hv1 (a3 hs w hw)
              · exact absurd hroot (b2.dead a1 b1 hv1 hs)
            · exact (hd u (by omega) (by omega)).ext (a2.trans b2) h b1 (by omega)) hq
          exact ⟨c1, a2.trans (b2.trans c2), c3, c4⟩
    · cases hq
      exact ⟨h, Ext.refl _ _, hl, fun u hu => hd u (by omega) hu⟩
end Go.Proofs.Ytneglephfhiamaa

namespace Go.Proofs.Ytneglephfhiamaa
open Go.Pv
def stT (t : List (List Int)) (a : Nat) (x : Int) : Nat := ((t.getD a []).getD (cI x).toNat 0).toNat
def ledT (t : List (List Int)) : Nat → List Int → Nat
  | a, [] => a
  | a, x :: w => ledT t (stT t a x) w
structure Tb (m : Nat) (t : List (List Int)) : Prop where
  row : ∀ r ∈ t, r.length = 2 * m ∧ ∀ d ∈ r, 0 ≤ d ∧ d < t.length
def nxR : Nat → List Int → Option Nat
  | n, [] => some n
  | n, d :: r => if (n : Int) < d then none else nxR (if d = n then n + 1 else n) r
def nxT : Nat → Nat → List (List Int) → Prop
  | _, _, [] => True
  | n, i, r :: rs => i < n ∧ ∃ n', nxR n r = some n' ∧ nxT n' (i + 1) rs
structure TabOk (m : Nat) (t rels subs : List (List Int)) : Prop where
  tb : Tb m t
  nx : nxT 1 0 t
  und : ∀ i, i < t.length → ∀ x : Int, x ≠ 0 → -(m : Int) ≤ x → x ≤ m → stT t (stT t i x) (-x) = i
  rel : ∀ i, i < t.length → ∀ w ∈ rels, ledT t i w = i
  sub : ∀ w ∈ subs, ledT t 0 w = 0
  rl : ∀ w ∈ rels, Lt m w
  sl : ∀ w ∈ subs, Lt m w
theorem Tb.at {m : Nat} {t : List (List Int)} (h : Tb m t) {a : Nat} (ha : a < t.length) : (t.getD a []).length = 2 * m ∧ ∀ c, c < 2 * m → ∃ d : Nat, (t.getD a []).getD c 0 = (d : Int) ∧ d < t.length := by
  have hm : t.getD a [] ∈ t := by rw [List.getD_eq_getElem?_getD, List.getElem?_eq_getElem ha]; exact List.getElem_mem ha
  obtain ⟨h1, h2⟩ := h.row _ hm
  refine ⟨h1, fun c hc => ?_⟩
  have := h2 ((t.getD a []).getD c 0) (by rw [List.getD_eq_getElem?_getD (l := t.getD a []), List.getElem?_eq_getElem (by omega)]; exact List.getElem_mem _)
  exact ⟨((t.getD a []).getD c 0).toNat, by omega, by omega⟩
theorem Tb.st {m : Nat} {t : List (List Int)} (h : Tb m t) {a : Nat} (ha : a < t.length) {x : Int} (hx : x ≠ 0 ∧ -(m : Int) ≤ x ∧ x ≤ m) : (t.getD a []).getD (cI x).toNat 0 = (stT t a x : Int) ∧ stT t a x < t.length := by
  obtain ⟨d, h1, h2⟩ := (h.at ha).2 (cI x).toNat (cI_lt hx.1 hx.2.1 hx.2.2).2
  unfold stT
  rw [h1]
  exact ⟨by simp, by simpa using h2⟩
theorem ledT_lt {m : Nat} {t : List (List Int)} (h : Tb m t) : ∀ {w : List Int} {a : Nat}, Lt m w → a < t.length → ledT t a w < t.length
  | [], a, _, ha => ha
  | x :: w, a, hw, ha => ledT_lt (w := w) h (fun y hy => hw y (by simp [hy])) (h.st ha (hw x (by simp))).2
theorem ledT_app (t : List (List Int)) : ∀ (v w : List Int) (a : Nat), ledT t a (v ++ w) = ledT t (ledT t a v) w
  | [], _, _ => rfl
  | x :: v, w, a => ledT_app t v w (stT t a x)
theorem ledT_push {m : Nat} {t : List (List Int)} (h : Tb m t) (hu : ∀ i, i < t.length → ∀ x : Int, x ≠ 0 → -(m : Int) ≤ x → x ≤ m → stT t (stT t i x) (-x) = i) {o : List Int} {x : Int} {a : Nat} (ho : Lt m o) (hx : x ≠ 0 ∧ -(m : Int) ≤ x ∧ x ≤ m) (ha : a < t.length) : ledT t a (push o x) = stT t (ledT t a o) x := by
  unfold push
  split
  · rename_i hc
    obtain ⟨p, y, rfl⟩ : ∃ p y, o = p ++ [y] := by
      have hne : o ≠ [] := by intro e; subst e; simp at hc
      exact ⟨o.dropLast, o.getLast hne, (List.dropLast_concat_getLast hne).symm⟩
    have e1 : (p ++ [y]).take ((p ++ [y]).length - 1) = p := by simp
    have e2 : y = -x := by
      simpa using hc
    have hpl : ledT t a p < t.length := ledT_lt h (fun z hz => ho z (by simp [hz])) ha
    have hy : y ≠ 0 ∧ -(m : Int) ≤ y ∧ y ≤ m := ho y (by simp)
    have := hu _ hpl y hy.1 hy.2.1 hy.2.2
    rw [ledT_app]
    simp only [ledT]
    rw [show x = -y by omega, this]
    first | rw [e1] | simp
  · rw [ledT_app]; rfl
theorem push_lt {m : Nat} {o : List Int} {x : Int} (ho : Lt m o) (hx : x ≠ 0 ∧ -(m : Int) ≤ x ∧ x ≤ m) : Lt m (push o x) := by
  unfold push
  split
  · exact fun y hy => ho y (List.mem_of_mem_take hy)
  · intro y hy
    rcases List.mem_append.1 hy with h | h
    · exact ho y h
    · rw [List.mem_singleton] at h; subst h; exact hx
theorem ledT_short {m : Nat} {t : List (List Int)} (h : Tb m t) (hu : ∀ i, i < t.length → ∀ x : Int, x ≠ 0 → -(m : Int) ≤ x → x ≤ m → stT t (stT t i x) (-x) = i) {w : List Int} (hw : Lt m w) {a : Nat} (ha : a < t.length) : ledT t a (short w) = ledT t a w := by
  have : ∀ (w o : List Int), Lt m w → Lt m o → ledT t a (w.foldl push o) = ledT t (ledT t a o) w := by
    intro w
    induction w with
    | nil => intro o _ _; rfl
    | cons x w ih =>
      intro o hw ho
      have hx := hw x (by simp)
      rw [List.foldl_cons, ih _ (fun y hy => hw y (by simp [hy])) (push_lt ho hx), ledT_push h hu ho hx ha]
      rfl
  have := this w [] hw (fun x hx => by simp at hx)
  exact this
theorem short_ltm {m : Nat} {w : List Int} (hw : Lt m w) : Lt m (short w) := by
  have : ∀ (w o : List Int), Lt m w → Lt m o → Lt m (w.foldl push o) := by
    intro w
    induction w with
    | nil => intro o _ ho; exact ho
    | cons x r ih => exact fun o hw ho => ih _ (fun y hy => hw y (by simp [hy])) (push_lt ho (hw x (by simp)))
  exact this w [] hw (fun x hx => by simp at hx)
end Go.Proofs.Ytneglephfhiamaa

namespace Go.Proofs.Ytneglephfhiamaa
open Go.Pv
def nbC (s : CS) (v : Nat) (x : Int) : Nat := rV s.2 (rg (s.1.getD v []) x).toNat
def stepB (nb : Int → Nat) (q : List Nat × List Int) (y : Int) : List Nat × List Int :=
  if nb y ∈ q.1 then (q.1, q.2 ++ [(q.1.idxOf (nb y) : Int)]) else (q.1 ++ [nb y], q.2 ++ [(q.1.length : Int)])
def lettB (m : Nat) : List Int := (List.range (2 * m)).map fun k => if k % 2 = 0 then ((k / 2 + 1 : Nat) : Int) else -((k / 2 + 1 : Nat) : Int)
def rowB (s : CS) (m v : Nat) (L : List Nat) : List Nat × List Int := (lettB m).foldl (stepB (nbC s v)) (L, [])
def bfsF (s : CS) (m : Nat) : Nat → Nat → List Nat → List (List Int) → List Nat × List (List Int)
  | 0, _, L, out => (L, out)
  | k + 1, i, L, out => if i < L.length then bfsF s m k (i + 1) (rowB s m (L.getD i 0) L).1 (out ++ [(rowB s m (L.getD i 0) L).2]) else (L, out)
def tabB (m : Nat) (s : CS) : List (List Int) := (bfsF s m (s.1.length + 1) 0 [rV s.2 0] []).2
theorem lettB_len (m : Nat) : (lettB m).length = 2 * m := by simp [lettB]
theorem lettB_get {m k : Nat} (h : k < 2 * m) : (lettB m).getD k 0 = if k % 2 = 0 then ((k / 2 + 1 : Nat) : Int) else -((k / 2 + 1 : Nat) : Int) := by
  unfold lettB
  rw [List.getD_eq_getElem?_getD, List.getElem?_map, List.getElem?_range h]; rfl
theorem lettB_ok {m k : Nat} (h : k < 2 * m) : (lettB m).getD k 0 ≠ 0 ∧ -(m : Int) ≤ (lettB m).getD k 0 ∧ (lettB m).getD k 0 ≤ m ∧ cI ((lettB m).getD k 0) = k := by
  rw [lettB_get h]
  unfold cI
  split
  · rw [if_pos (by omega)]; omega
  · rw [if_neg (by omega)]; omega
theorem lettB_mem {m : Nat} {x : Int} (h : x ∈ lettB m) : x ≠ 0 ∧ -(m : Int) ≤ x ∧ x ≤ m := by
  obtain ⟨k, hk, rfl⟩ := List.getElem_of_mem h
  rw [lettB_len] at hk
  have := lettB_ok hk
  rw [List.getD_eq_getElem?_getD, List.getElem?_eq_getElem (by rw [lettB_len]; exact hk)] at this
  exact ⟨this.1, this.2.1, this.2.2.1⟩
theorem lettB_cI {m : Nat} {x : Int} (h : x ≠ 0 ∧ -(m : Int) ≤ x ∧ x ≤ m) : (lettB m).getD (cI x).toNat 0 = x := by
  have h1 := cI_lt h.1 h.2.1 h.2.2
  have h2 := lettB_ok h1.2
  exact cI_inj h2.1 h.1 (by rw [h2.2.2.2]; omega)
structure LI (s : CS) (L : List Nat) : Prop where
  nd : L.Nodup
  rt : ∀ v ∈ L, v < s.1.length ∧ rV s.2 v = v
def Full (m : Nat) (s : CS) : Prop := ∀ v, v < s.1.length → rV s.2 v = v → ∀ x : Int, x ≠ 0 → -(m : Int) ≤ x → x ≤ m → ¬ rg (s.1.getD v []) x < 0
theorem nodupLen {L : List Nat} {n : Nat} (h : L.Nodup) (hl : ∀ x ∈ L, x < n) : L.length ≤ n := by
  have := nodup_len n L h hl
  exact this
theorem nbC_ok {m : Nat} {s : CS} (h : Okc m s) (hf : Full m s) {v : Nat} (hv : v < s.1.length) (hr : rV s.2 v = v) {x : Int} (hx : x ≠ 0 ∧ -(m : Int) ≤ x ∧ x ≤ m) : nbC s v x < s.1.length ∧ rV s.2 (nbC s v x) = nbC s v x := by
  have h1 := h.wr.rg hv (hf v hv hr x hx.1 hx.2.1 hx.2.2)
  have h2 := rV_le h.wr.fo (rg (s.1.getD v []) x).toNat (by rw [h.wr.len]; exact h1)
  have h3 := rV_idem h.wr.fo (v := (rg (s.1.getD v []) x).toNat) (by rw [h.wr.len]; exact h1)
  unfold nbC
  exact ⟨by omega, h3⟩
theorem stepB_li {s : CS} {nb : Int → Nat} {q : List Nat × List Int} {y : Int} (h : LI s q.1) (hy : nb y < s.1.length ∧ rV s.2 (nb y) = nb y) : LI s (stepB nb q y).1 ∧ (∃ Z, (stepB nb q y).1 = q.1 ++ Z) ∧ nb y ∈ (stepB nb q y).1 ∧ (stepB nb q y).2 = q.2 ++ [((stepB nb q y).1.idxOf (nb y) : Int)] := by
  unfold stepB
  split
  · rename_i hm
    exact ⟨h, ⟨[], by simp⟩, hm, rfl⟩
  · rename_i hm
    refine ⟨⟨?_, fun v hv => ?_⟩, ⟨[nb y], rfl⟩, by simp, ?_⟩
    · rw [List.nodup_append]
      exact ⟨h.nd, by simp, fun a ha b hb e => hm (by rw [List.mem_singleton] at hb; rw [← hb, ← e]; exact ha)⟩
    · rcases List.mem_append.1 hv with hv | hv
      · exact h.rt v hv
      · rw [List.mem_singleton] at hv; subst hv; exact hy
    · simp only [List.append_cancel_left_eq, List.cons.injEq, and_true]
      rw [List.idxOf_append, if_neg hm]
      simp
theorem idx_grow {L Z : List Nat} {u : Nat} (h : u ∈ L) : (L ++ Z).idxOf u = L.idxOf u := by rw [List.idxOf_append, if_pos h]
theorem fold_row {s : CS} {nb : Int → Nat} : ∀ (xs : List Int) (q : List Nat × List Int), LI s q.1 → (∀ y ∈ xs, nb y < s.1.length ∧ rV s.2 (nb y) = nb y) →
    LI s (xs.foldl (stepB nb) q).1 ∧ (∃ Z, (xs.foldl (stepB nb) q).1 = q.1 ++ Z) ∧ (∀ y ∈ xs, nb y ∈ (xs.foldl (stepB nb) q).1) ∧ (xs.foldl (stepB nb) q).2 = q.2 ++ xs.map (fun y => ((xs.foldl (stepB nb) q).1.idxOf (nb y) : Int))
  | [], q, h, _ => ⟨h, ⟨[], by simp⟩, fun y hy => by simp at hy, by simp⟩
  | y :: xs, q, h, hy => by
    obtain ⟨a1, ⟨Z1, a2⟩, a3, a4⟩ := stepB_li h (hy y (by simp))
    obtain ⟨b1, ⟨Z2, b2⟩, b3, b4⟩ := fold_row xs (stepB nb q y) a1 fun z hz => hy z (by simp [hz])
    rw [List.foldl_cons]
    have hy2 : nb y ∈ (xs.foldl (stepB nb) (stepB nb q y)).1 := by rw [b2]; exact List.mem_append_left _ a3
    refine ⟨b1, ⟨Z1 ++ Z2, by rw [b2, a2, List.append_assoc]⟩, fun z hz => ?_, ?_⟩
    · rcases List.mem_cons.1 hz with rfl | hz
      · exact hy2
      · exact b3 z hz
    · rw [b4, a4, List.append_assoc, List.map_cons]
      congr 1
      rw [List.singleton_append]
      congr 1
      rw [b2, idx_grow a3]
theorem fold_nx {s : CS} {nb : Int → Nat} : ∀ (xs : List Int) (q : List Nat × List Int), LI s q.1 → (∀ y ∈ xs, nb y < s.1.length ∧ rV s.2 (nb y) = nb y) →
    nxR q.1.length ((xs.foldl (stepB nb) q).2.drop q.2.length) = some (xs.foldl (stepB nb) q).1.length
  | [], q, h, _ => by simp [nxR]
  | y :: xs, q, h, hy => by
    obtain ⟨a1, ⟨Z1, a2⟩, a3, a4⟩ := stepB_li h (hy y (by simp))
    have ih := fold_nx xs (stepB nb q y) a1 fun z hz => hy z (by simp [hz])
    obtain ⟨b1, ⟨Z2, b2⟩, b3, b4⟩ := fold_row xs (stepB nb q y) a1 fun z hz => hy z (by simp [hz])
    rw [List.foldl_cons]
    have hdr : (xs.foldl (stepB nb) (stepB nb q y)).2.drop q.2.length = ((stepB nb q y).1.idxOf (nb y) : Int) :: (xs.foldl (stepB nb) (stepB nb q y)).2.drop (stepB nb q y).2.length := by
      rw [b4, a4]
      simp
    rw [hdr, nxR]
    by_cases hm : nb y ∈ q.1
    · have e1 : (stepB nb q y).1 = q.1 := by unfold stepB; rw [if_pos hm]
      have hlt := List.idxOf_lt_length_of_mem hm
      rw [e1] at ih ⊢
      rw [if_neg (by omega), if_neg (by omega)]
      exact ih
    · have e1 : (stepB nb q y).1 = q.1 ++ [nb y] := by unfold stepB; rw [if_neg hm]
      have e2 : (stepB nb q y).1.idxOf (nb y) = q.1.length := by rw [e1, List.idxOf_append, if_neg hm]; simp
      rw [e2, if_neg (by omega), if_pos rfl]
      have e3 : (stepB nb q y).1.length = q.1.length + 1 := by rw [e1]; simp
      rw [e3] at ih
      exact ih
theorem getD_ap {L Z : List Nat} {j : Nat} (h : j < L.length) : (L ++ Z).getD j 0 = L.getD j 0 := by
  rw [List.getD_eq_getElem?_getD, List.getElem?_append_left h, List.getD_eq_getElem?_getD]
theorem getD_memN {L : List Nat} {j : Nat} (h : j < L.length) : L.getD j 0 ∈ L := by
  rw [List.getD_eq_getElem?_getD, List.getElem?_eq_getElem h]; exact List.getElem_mem h
def RowsOk (m : Nat) (s : CS) (L : List Nat) (out : List (List Int)) (i : Nat) : Prop := ∀ j, j < i → out.getD j [] = (lettB m).map (fun y => (L.idxOf (nbC s (L.getD j 0) y) : Int)) ∧ ∀ y ∈ lettB m, nbC s (L.getD j 0) y ∈ L
theorem RowsOk.grow {m : Nat} {s : CS} {L Z : List Nat} {out : List (List Int)} {i : Nat} (h : RowsOk m s L out i) (hi : i ≤ L.length) : RowsOk m s (L ++ Z) out i := fun j hj => by
  obtain ⟨h1, h2⟩ := h j hj
  rw [getD_ap (by omega)]
  refine ⟨?_, fun y hy => List.mem_append_left _ (h2 y hy)⟩
  rw [h1]
  refine List.map_congr_left fun y hy => ?_
  rw [idx_grow (h2 y hy)]
theorem bfs_spec {m : Nat} {s : CS} (h : Okc m s) (hf : Full m s) : ∀ (k i : Nat) (L : List Nat) (out : List (List Int)), LI s L → out.length = i → i ≤ L.length → RowsOk m s L out i → s.1.length + 1 ≤ i + k →
    LI s (bfsF s m k i L out).1 ∧ (∃ Z, (bfsF s m k i L out).1 = L ++ Z) ∧ (bfsF s m k i L out).2.length = (bfsF s m k i L out).1.length ∧ RowsOk m s (bfsF s m k i L out).1 (bfsF s m k i L out).2 (bfsF s m k i L out).1.length ∧ (∃ Y, (bfsF s m k i L out).2 = out ++ Y ∧ nxT L.length i Y)
  | 0, i, L, out, hL, ho, hi, hr, hk => by
    have := nodupLen hL.nd fun x hx => (hL.rt x hx).1
    omega
  | k + 1, i, L, out, hL, ho, hi, hr, hk => by
    unfold bfsF
    split
    · rename_i hil
      obtain ⟨v, hv⟩ : ∃ v, L.getD i 0 = v := ⟨_, rfl⟩
      obtain ⟨hv1, hv2⟩ := hL.rt v (hv ▸ getD_memN hil)
      rw [hv]
      have hnb : ∀ y ∈ lettB m, nbC s v y < s.1.length ∧ rV s.2 (nbC s v y) = nbC s v y := fun y hy => nbC_ok h hf hv1 hv2 (lettB_mem hy)
      obtain ⟨a1, ⟨Z, a2⟩, a3, a4⟩ := fold_row (lettB m) (L, []) hL hnb
      have a5 := fold_nx (lettB m) (L, []) hL hnb
      obtain ⟨R, hR⟩ : ∃ R, rowB s m v L = R := ⟨_, rfl⟩
      have hR2 : (lettB m).foldl (stepB (nbC s v)) (L, []) = R := hR
      rw [hR2] at a1 a2 a3 a4 a5
      simp only [List.nil_append] at a2 a4
      simp only [List.length_nil, List.drop_zero] at a5
      rw [hR]
      have hro : RowsOk m s R.1 (out ++ [R.2]) (i + 1) := fun j hj => by
        by_cases hji : j = i
        · subst hji
          have e1 : R.1.getD j 0 = v := by rw [a2, getD_ap hil, hv]
          rw [e1]
          refine ⟨?_, a3⟩
          rw [List.getD_eq_getElem?_getD, List.getElem?_append_right (by omega), ho, Nat.sub_self]
          exact a4
        · have := (hr.grow (Z := Z) hi) j (by omega)
          rw [← a2] at this
          refine ⟨?_, this.2⟩
          rw [List.getD_eq_getElem?_getD, List.getElem?_append_left (by omega), ← List.getD_eq_getElem?_getD]
          exact this.1
      have hi1 : i + 1 ≤ R.1.length := by rw [a2, List.length_append]; omega
      obtain ⟨b1, ⟨Z2, b2⟩, b3, b4, Y, b5, b6⟩ := bfs_spec h hf k (i + 1) R.1 (out ++ [R.2]) a1 (by simp [ho]) hi1 hro (by omega)
      refine ⟨b1, ⟨Z ++ Z2, by rw [b2, a2, List.append_assoc]⟩, b3, b4, R.2 :: Y, by rw [b5, List.append_assoc]; rfl, hil, R.1.length, a5, b6⟩
    · rename_i hil
      have hie : i = L.length := by omega
      subst hie
      exact ⟨hL, ⟨[], by simp⟩, ho, hr, [], by simp, trivial⟩
section
variable {m : Nat} {s : CS} {L : List Nat} {T : List (List Int)}
theorem getD_idx {L : List Nat} {u : Nat} (h : u ∈ L) : L.getD (L.idxOf u) 0 = u := by
  have hl := List.idxOf_lt_length_of_mem h
  rw [List.getD_eq_getElem?_getD, List.getElem?_eq_getElem hl]
  exact List.getElem_idxOf hl
theorem idx_getD {L : List Nat} (h : L.Nodup) {i : Nat} (hi : i < L.length) : L.idxOf (L.getD i 0) = i := by
  obtain ⟨u, hu⟩ : ∃ u, L.getD i 0 = u := ⟨_, rfl⟩
  have hm : u ∈ L := hu ▸ getD_memN hi
  have h2 := List.idxOf_lt_length_of_mem hm
  have h3 : L[L.idxOf u] = u := List.getElem_idxOf h2
  rw [List.getD_eq_getElem?_getD, List.getElem?_eq_getElem hi] at hu
  have h4 : L[i] = u := hu
  rw [List.getD_eq_getElem?_getD, List.getElem?_eq_getElem hi]
  simp only [Option.getD_some, h4]
  exact (List.getElem_inj h).1 (h3.trans h4.symm)
theorem stT_row (hr : RowsOk m s L T L.length) {i : Nat} (hi : i < L.length) {x : Int} (hx : x ≠ 0 ∧ -(m : Int) ≤ x ∧ x ≤ m) : stT T i x = L.idxOf (nbC s (L.getD i 0) x) ∧ nbC s (L.getD i 0) x ∈ L := by
  obtain ⟨h1, h2⟩ := hr i hi
  have hc := cI_lt hx.1 hx.2.1 hx.2.2
  have hg := lettB_cI hx
  have hmem : x ∈ lettB m := by
    rw [← hg, List.getD_eq_getElem?_getD, List.getElem?_eq_getElem (by rw [lettB_len]; exact hc.2)]; exact List.getElem_mem _
  refine ⟨?_, h2 x hmem⟩
  unfold stT
  rw [h1, List.getD_eq_getElem?_getD, List.getElem?_map, List.getElem?_eq_getElem (by rw [lettB_len]; exact hc.2)]
  have : (lettB m)[(cI x).toNat]'(by rw [lettB_len]; exact hc.2) = x := by
    rw [List.getD_eq_getElem?_getD, List.getElem?_eq_getElem (by rw [lettB_len]; exact hc.2)] at hg
    exact hg
  simp [this]
theorem rows_tb (hr : RowsOk m s L T L.length) (hl : T.length = L.length) : Tb m T := ⟨fun r hr' => by
  obtain ⟨j, hj, rfl⟩ := List.getElem_of_mem hr'
  obtain ⟨h1, h2⟩ := hr j (by omega)
  rw [List.getD_eq_getElem?_getD, List.getElem?_eq_getElem hj] at h1
  simp only [Option.getD_some] at h1
  rw [h1]
  refine ⟨by simp [lettB_len], fun d hd => ?_⟩
  obtain ⟨y, hy, rfl⟩ := List.mem_map.1 hd
  have := List.idxOf_lt_length_of_mem (h2 y hy)
  omega⟩
theorem ed_nb (h : Okc m s) {u q : Nat} {x : Int} (hu : u < s.1.length) (hx : x ≠ 0 ∧ -(m : Int) ≤ x ∧ x ≤ m) (he : Ed (gN m s.1) s.2 u x q) : nbC s (rV s.2 u) x = rV s.2 q := by
  obtain ⟨d, h1, h2⟩ := he
  have hl := rV_le h.wr.fo u (by rw [h.wr.len]; exact hu)
  rw [gm_gN (by omega)] at h1
  unfold rwM at h1
  split at h1
  · obtain rfl := Option.some.inj h1
    exact h2
  · cases h1
theorem nb_ed (h : Okc m s) (hf : Full m s) {v : Nat} (hv : v < s.1.length) (hr : rV s.2 v = v) {x : Int} (hx : x ≠ 0 ∧ -(m : Int) ≤ x ∧ x ≤ m) : Ed (gN m s.1) s.2 v x (nbC s v x) := by
  have h1 := hf v hv hr x hx.1 hx.2.1 hx.2.2
  refine ⟨rg (s.1.getD v []) x, ?_, ?_⟩
  · rw [hr, gm_gN hv]
    unfold rwM
    rw [if_pos ⟨hx.1, hx.2.1, hx.2.2, h1⟩]
  · have h2 := h.wr.rg hv h1
    exact (rV_idem h.wr.fo (v := (rg (s.1.getD v []) x).toNat) (by rw [h.wr.len]; exact h2)).symm
theorem nb_back (h : Okc m s) (hf : Full m s) {v : Nat} (hv : v < s.1.length) (hr : rV s.2 v = v) {x : Int} (hx : x ≠ 0 ∧ -(m : Int) ≤ x ∧ x ≤ m) : nbC s (nbC s v x) (-x) = v := by
  obtain ⟨h1, h2⟩ := nbC_ok h hf hv hr hx
  have e := nb_ed h hf hv hr hx
  have e2 := pe_nil.1 (h.sy v x (nbC s v x) (by rw [gN_len]; exact hv) (by rw [gN_len]; exact h1) (pe_nil.2 e))
  have := ed_nb h h1 (x := -x) ⟨by omega, by omega, by omega⟩ e2
  rw [h2, hr] at this
  exact this
theorem tab_und (h : Okc m s) (hf : Full m s) (hL : LI s L) (hr : RowsOk m s L T L.length) {i : Nat} (hi : i < L.length) {x : Int} (hx : x ≠ 0 ∧ -(m : Int) ≤ x ∧ x ≤ m) : stT T (stT T i x) (-x) = i := by
  obtain ⟨a1, a2⟩ := stT_row hr hi hx
  obtain ⟨v1, v2⟩ := hL.rt _ (getD_memN hi)
  have hlt := List.idxOf_lt_length_of_mem a2
  rw [a1]
  obtain ⟨b1, b2⟩ := stT_row hr hlt (x := -x) ⟨by omega, by omega, by omega⟩
  rw [b1, getD_idx a2, nb_back h hf v1 v2 hx, idx_getD hL.nd hi]
theorem tab_led (h : Okc m s) (hf : Full m s) (hL : LI s L) (hr : RowsOk m s L T L.length) : ∀ (w : List Int) (a u v : Nat), a < L.length → u < s.1.length → Lt m w → rV s.2 u = L.getD a 0 → Pth (gN m s.1) s.2 u w v → ledT T a w < L.length ∧ L.getD (ledT T a w) 0 = rV s.2 v
  | [], a, u, v, ha, hu, _, e, hp => ⟨ha, (show L.getD a 0 = rV s.2 v from e.symm.trans hp)⟩
  | x :: w, a, u, v, ha, hu, hw, e, ⟨q, q1, q2, q3⟩ => by
    rw [gN_len] at q1
    have hx := hw x (by simp)
    obtain ⟨a1, a2⟩ := stT_row hr ha hx
    have hlt := List.idxOf_lt_length_of_mem a2
    have hn := ed_nb h hu hx q2
    rw [e] at hn
    refine tab_led h hf hL hr w _ q v (by rw [a1]; exact hlt) q1 (fun y hy => hw y (by simp [hy])) ?_ q3
    rw [a1, getD_idx a2, hn]
end
theorem rV_zero' {m : Nat} {s : CS} (h : Okc m s) (h0 : 0 < s.1.length) : rV s.2 0 = 0 := by
  have := rV_le h.wr.fo 0 (by rw [h.wr.len]; exact h0)
  omega
theorem done_full {m : Nat} {rels : List (List Int)} {s : CS} (h : Okc m s) (hd : ∀ u, u < s.1.length → Done m rels s u) : Full m s := fun v hv hr x h0 h1 h2 => by
  obtain ⟨b, b1, d, d1, d2⟩ := (hd v hv hr).2 x h0 h1 h2
  rw [hr, gm_gN hv] at d1
  unfold rwM at d1
  split at d1
  · rename_i h; exact h.2.2.2
  · cases d1
theorem tabB_ok {m : Nat} {rels subs : List (List Int)} {s : CS} (h : Okc m s) (h0 : 0 < s.1.length) (hd : ∀ u, u < s.1.length → Done m (rels.map short) s u) (hs : ∀ w ∈ subs, Pth (gN m s.1) s.2 0 (short w) 0) (hr : ∀ w ∈ rels, Lt m w) (hsl : ∀ w ∈ subs, Lt m w) : TabOk m (tabB m s) rels subs ∧ 0 < (tabB m s).length ∧ (tabB m s).length ≤ s.1.length := by
  have hf := done_full h hd
  have hz := rV_zero' h h0
  have hL0 : LI s [rV s.2 0] := ⟨by simp, fun v hv => by
    rw [List.mem_singleton] at hv
    subst hv
    rw [hz]; exact ⟨h0, hz⟩⟩
  obtain ⟨b1, ⟨Z, b2⟩, b3, b4, Y, b5, b6⟩ := bfs_spec h hf (s.1.length + 1) 0 [rV s.2 0] [] hL0 rfl (by simp) (fun j hj => by omega) (by omega)
  unfold tabB
  generalize bfsF s m (s.1.length + 1) 0 [rV s.2 0] [] = R at b1 b2 b3 b4 b5 b6
  obtain ⟨L, T⟩ := R
  simp only at b1 b2 b3 b4 b5 b6 ⊢
  have htb := rows_tb b4 b3
  have hund : ∀ i, i < T.length → ∀ x : Int, x ≠ 0 → -(m : Int) ≤ x → x ≤ m → stT T (stT T i x) (-x) = i := fun i hi x h1 h2 h3 => tab_und h hf b1 b4 (by omega) ⟨h1, h2, h3⟩
  have hL0 : 0 < L.length := by rw [b2]; simp
  have hg0 : L.getD 0 0 = 0 := by rw [b2, hz]; rfl
  refine ⟨⟨htb, ?_, hund, fun i hi w hw => ?_, fun w hw => ?_, hr, hsl⟩, by omega, ?_⟩
  · rw [b5]
    simpa using b6
  · have hiL : i < L.length := by omega
    obtain ⟨v1, v2⟩ := b1.rt _ (getD_memN hiL)
    have hp := (hd _ v1 v2).1 (short w) (List.mem_map.2 ⟨w, hw, rfl⟩)
    obtain ⟨c1, c2⟩ := tab_led h hf b1 b4 (short w) i _ _ hiL v1 (short_ltm (hr w hw)) v2 hp
    rw [ledT_short htb hund (hr w hw) hi] at c1 c2
    rw [v2] at c2
    have := idx_getD b1.nd c1
    rw [c2, idx_getD b1.nd hiL] at this
    exact this.symm
  · obtain ⟨c1, c2⟩ := tab_led h hf b1 b4 (short w) 0 0 0 hL0 h0 (short_ltm (hsl w hw)) (by rw [hg0]; exact hz) (hs w hw)
    rw [ledT_short htb hund (hsl w hw) (by omega)] at c1 c2
    have := idx_getD b1.nd c1
    rw [c2, hz] at this
    have h2 := idx_getD b1.nd hL0
    rw [hg0] at h2
    omega
  · rw [b3]
    exact nodupLen b1.nd fun x hx => (b1.rt x hx).1
end Go.Proofs.Ytneglephfhiamaa

namespace Go.Proofs.Ytneglephfhiamaa
open Go.Pv
theorem sub_spec {m most : Nat} (hm : m ≤ 26) : ∀ (subs : List (List Int)) (s s' : CS), Okc m s → 0 < s.1.length → s.1.length ≤ most → (∀ w ∈ subs, Lt m w) → subT m most subs s = some s' →
    Okc m s' ∧ Ext m s s' ∧ s'.1.length ≤ most ∧ ∀ w ∈ subs, Pth (gN m s'.1) s'.2 0 w 0
  | [], s, s', h, h0, hl, _, hq => by cases hq; exact ⟨h, Ext.refl _ _, hl, fun w hw => by cases hw⟩
  | w :: r, s, s', h, h0, hl, hr, hq => by
    unfold subT at hq
    cases ht : trT m most s 0 w with
    | none => rw [ht] at hq; cases hq
    | some s1 =>
      rw [ht] at hq
      obtain ⟨k1, k2, k3⟩ := tr_spec hm h h0 (hr w (by simp)) ht
      have kl := tr_len hm h h0 (hr w (by simp)) hl ht
      have h1 : 0 < s1.1.length := Nat.lt_of_lt_of_le h0 k2.len
      obtain ⟨l1, l2, l3, l4⟩ := sub_spec hm r s1 s' k1 h1 kl (fun w hw => hr w (by simp [hw])) hq
      refine ⟨l1, k2.trans l2, l3, fun w' hw' => ?_⟩
      rcases List.mem_cons.1 hw' with rfl | hw'
      · exact l2.pth h1 h1 k3
      · exact l4 w' hw'
theorem okc_one {m : Nat} (hm : m ≤ 26) : Okc m (frS m ([], [])) :=
  (okc_fr (s := ([], [])) hm ⟨⟨rfl, fun v hv => by simp at hv, fun r hr => by simp at hr⟩, fun u x v hu => by simp [gN] at hu⟩).1
theorem cntT_ok {m most : Nat} (hm : m ≤ 26) (h1 : 1 ≤ most) {rels subs : List (List Int)} (hr : ∀ w ∈ rels, Lt m w) (hs : ∀ w ∈ subs, Lt m w) {t : CS} (h : cntT m most rels subs = some t) :
    Okc m t ∧ 0 < t.1.length ∧ t.1.length ≤ most ∧ (∀ u, u < t.1.length → Done m rels t u) ∧ ∀ w ∈ subs, Pth (gN m t.1) t.2 0 w 0 := by
  unfold cntT at h
  have k0 := okc_one (m := m) hm
  have kl : (frS m ([], [])).1.length = 1 := rfl
  cases hq : subT m most subs (frS m ([], [])) with
  | none => rw [hq] at h; cases h
  | some s1 =>
    rw [hq] at h
    simp only [Option.bind_some] at h
    obtain ⟨a1, a2, a3, a4⟩ := sub_spec hm subs _ s1 k0 (by omega) (by omega) hs hq
    have h0 : 0 < s1.1.length := Nat.lt_of_lt_of_le (by omega) a2.len
    obtain ⟨b1, b2, b3, b4⟩ := cnt_spec hm hr (most + 1) 0 s1 t a1 a3 (by omega) (fun u hu => by omega) h
    exact ⟨b1, Nat.lt_of_lt_of_le h0 b2.len, b3, b4, fun w hw => b2.pth h0 h0 (a4 w hw)⟩
def csO (m : Nat) (rels subs : List (List Int)) (mo : Nat) : Option (List (List Int)) :=
  match cntT m (max (20 * mo) 20000) (rels.map short) (subs.map short) with
  | some t => if mo < (tabB m t).length then none else some (tabB m t)
  | none => none
theorem csO_ok {m mo : Nat} (hm : m ≤ 26) {rels subs T : List (List Int)} (hr : ∀ w ∈ rels, Lt m w) (hs : ∀ w ∈ subs, Lt m w) (h : csO m rels subs mo = some T) : TabOk m T rels subs ∧ 0 < T.length ∧ T.length ≤ mo := by
  unfold csO at h
  cases hc : cntT m (max (20 * mo) 20000) (rels.map short) (subs.map short) with
  | none => rw [hc] at h; cases h
  | some t =>
    rw [hc] at h
    simp only at h
    split at h
    · cases h
    · rename_i hl
      obtain rfl := Option.some.inj h
      obtain ⟨a1, a2, a3, a4, a5⟩ := cntT_ok hm (by omega) (fun w hw => by
        obtain ⟨v, hv, rfl⟩ := List.mem_map.1 hw
        exact short_ltm (hr v hv)) (fun w hw => by
        obtain ⟨v, hv, rfl⟩ := List.mem_map.1 hw
        exact short_ltm (hs v hv)) hc
      obtain ⟨b1, b2, b3⟩ := tabB_ok a1 a2 a4 (fun w hw => a5 _ (List.mem_map.2 ⟨w, hw, rfl⟩)) hr hs
      exact ⟨b1, b2, by omega⟩
theorem csO_s3 : (csO 2 [[1, 1, 1], [2, 2], [1, 2, 1, 2]] [] 60).map List.length = some 6 := by decide +kernel
end Go.Proofs.Ytneglephfhiamaa

namespace Go.Proofs.Ytneglephfhiamaa
open Go.Pv
def rsl (w k : Nat) : List AV := (List.range k).map fun i => .sl (i + 3) 0 w
def cbx (n : Int) (k m : Nat) (most : Int) : Blk := .own [.p (.int .i64 n), .sl 1 0 k, .sl 2 0 m, .p (.int .i64 most)]
def rwB (r : List Int) : Blk := .own (ol r)
def CB (n most : Int) (w : Nat) (N : List (List Int)) (U : List Int) : Heap := cbx n N.length U.length most :: .own (rsl w N.length) :: .own (ol U) :: N.map rwB
theorem rsl_len (w k : Nat) : (rsl w k).length = k := by simp [rsl]
theorem rsl_get {w k a : Nat} (h : a < k) (x : AV) : (rsl w k).getD a x = .sl (a + 3) 0 w := by
  simp [rsl, List.getD, List.getElem?_map, List.getElem?_range h]
theorem rsl_sc {w k L : Nat} (h : k + 3 ≤ L) : (rsl w k).all (scA L) = true := by
  rw [List.all_eq_true]
  intro x hx
  obtain ⟨i, hi, rfl⟩ := List.mem_map.1 hx
  have := List.mem_range.1 hi
  simp [scA, sc1]; omega
theorem rsl_snoc (w k : Nat) : rsl w k ++ [.sl (k + 3) 0 w] = rsl w (k + 1) := by simp [rsl, List.range_succ]
theorem CB_len {n most : Int} {w : Nat} {N : List (List Int)} {U : List Int} : (CB n most w N U).length = N.length + 3 := by simp [CB]
theorem CB_hsc {n most : Int} {w : Nat} {N : List (List Int)} {U : List Int} {L : Nat} (h : N.length + 3 ≤ L) : ∀ b ∈ CB n most w N U, hsc L b = true := by
  intro b hb
  unfold CB at hb
  rcases List.mem_cons.1 hb with rfl | hb
  · simp [cbx, hsc, scA, sc1]; omega
  rcases List.mem_cons.1 hb with rfl | hb
  · exact rsl_sc h
  rcases List.mem_cons.1 hb with rfl | hb
  · exact ol_sc _ _
  obtain ⟨f, _, rfl⟩ := List.mem_map.1 hb
  exact ol_sc _ _
theorem CB_hscX {n most : Int} {w : Nat} {N : List (List Int)} {U : List Int} {X : Heap} {L : Nat} (h : N.length + 3 ≤ L) (hX : ∀ b ∈ X, hsc L b = true) : ∀ b ∈ (CB n most w N U ++ X), hsc L b = true := fun b hb => by
  rcases List.mem_append.1 hb with hb | hb
  · exact CB_hsc h b hb
  · exact hX b hb
section
variable {N : List (List Int)} {U : List Int} {n most : Int} {w : Nat}
set_option maxHeartbeats 4000000 in
set_option maxRecDepth 20000 in
theorem cof_c (hU : Fo U) (hl : U.length = N.length) (hk : N.length ≤ 100000000) {v : Nat} (hv : v < N.length) : FnM Try.prog 73 [.ptr 0 0, .p (.int .i64 v)] (CB n most w N U) (.p (.int .i64 (ofV U v : Nat))) (CB n most w N (ofU U v)) := by
  unfold CB cbx
  refine fnm_of tab_ok Try.func73 rfl (by kernel_rfl) (by rw [Try.ntmps73]; exact Nat.le_add_left 2 _) ?_; rw [Try.ntmps73]; simp only [ancs, entA, List.length_cons, List.length_nil, List.cons_append, List.nil_append, Nat.reduceAdd, Nat.zero_add]
  have hGl : (N.map rwB).length = N.length := by simp
  have hXs : ∀ b ∈ (.anc 0 0 :: .anc 1 1 :: .anc 2 2 :: ancs 3 (N.map rwB).length : Heap), hsc (N.length + 3 + (N.length + 3)) b = true := fun b hb => by
    have : (.anc 0 0 :: .anc 1 1 :: .anc 2 2 :: ancs 3 (N.map rwB).length : Heap) = ancs 0 (N.length + 3) := by rw [hGl]; rfl
    rw [this] at hb
    exact ancs_hsc (by omega) b hb
  have hXl : (.anc 0 0 :: .anc 1 1 :: .anc 2 2 :: ancs 3 (N.map rwB).length : Heap).length = N.length + 3 := by simp [ancs_length]
  generalize (.anc 0 0 :: .anc 1 1 :: .anc 2 2 :: ancs 3 (N.map rwB).length : Heap) = X at hXs hXl ⊢
  have hHl : ∀ U1 : List Int, (.own [.p (.int .i64 n), .sl 1 0 N.length, .sl 2 0 U.length, .p (.int .i64 most)] :: .own (rsl w N.length) :: .own (ol U1) :: (N.map rwB ++ X) : Heap).length = N.length + 3 + (N.length + 3) := fun U1 => by simp [hXl]; omega
  have hHs : ∀ U1 : List Int, U1.length = U.length → ∀ b ∈ (.own [.p (.int .i64 n), .sl 1 0 N.length, .sl 2 0 U.length, .p (.int .i64 most)] :: .own (rsl w N.length) :: .own (ol U1) :: (N.map rwB ++ X) : Heap), hsc (.own [.p (.int .i64 n), .sl 1 0 N.length, .sl 2 0 U.length, .p (.int .i64 most)] :: .own (rsl w N.length) :: .own (ol U1) :: (N.map rwB ++ X) : Heap).length b = true := fun U1 h1 b hb => by
    rw [hHl]
    refine CB_hscX (n := n) (most := most) (w := w) (N := N) (U := U1) (X := X) (by omega) hXs b ?_
    unfold CB cbx
    rw [h1]
    simpa using hb
  refine qm ?_
  refine hk_region fun K hK => runs_eval tab_ok ?_
  simp only [ev0, evA, evB, evP, fl, gp, tab, simprocAttr]
  refine fin_run trivial (hK _ ?_) <;> clear hK <;> clear K
  refine qa (qm (ql ?_))
  refine hk_loop (ι := Nat × List Int) (fun x => ⟨41, [(0, .ptr 0 0), (1, .p (.int .i64 (x.1 : Nat)))], .own [.p (.int .i64 n), .sl 1 0 N.length, .sl 2 0 U.length, .p (.int .i64 most)] :: .own (rsl w N.length) :: .own (ol x.2) :: (N.map rwB ++ X)⟩) (fun x => Fo x.2 ∧ x.2.length = U.length ∧ x.1 < U.length ∧ ofS (v + 1) U v = ofS (x.1 + 1) x.2 x.1) (fun x => x.1) (v, U) ⟨hU, rfl, by simp only; omega, rfl⟩ (List.range (.own [.p (.int .i64 n), .sl 1 0 N.length, .sl 2 0 U.length, .p (.int .i64 most)] :: .own (rsl w N.length) :: .own (ol U) :: (N.map rwB ++ X) : Heap).length) (le_same rfl rfl (hHs U rfl) (by
    rw [hHl]
    simp [St.get, lk, scA, sc1]; omega)) fun x hx => ?_
  obtain ⟨y, U1⟩ := x
  obtain ⟨x1, x2, x3, x4⟩ := hx
  simp only at x1 x2 x3 x4
  have hy := x1 y (by omega)
  obtain ⟨p, hp⟩ := Int.eq_ofNat_of_zero_le hy.1
  obtain ⟨f1, f2, f3, f4⟩ := x1.half (v := y) (by omega)
  have hpn : (U1.getD y 0).toNat = p := by omega
  rw [hpn] at f1 f2 f3 f4
  obtain ⟨q, hq⟩ := Int.eq_ofNat_of_zero_le f4
  have hqn : (U1.getD p 0).toNat = q := by omega
  obtain ⟨U2, hU2⟩ : ∃ U2, U1.set y (U1.getD p 0) = U2 := ⟨_, rfl⟩
  have l2 : U2.length = U.length := by rw [← hU2, List.length_set]; exact x2
  have g2 : U2.getD y 0 = (q : Int) := by
    rw [← hU2, ← hq, List.getD_eq_getElem?_getD, List.getElem?_set_self (by omega)]; rfl
  rw [hU2] at f1
  refine qm (qm ?_)
  refine hk_region fun K hK => runs_eval tab_ok ?_
  simp only [ev0, evA, evB, evP, fl, gp, tab, simprocAttr, ol_get (show y < U1.length by omega)]
  refine fin_run ?_ (hK _ ?_) <;> clear hK <;> clear K
  · exact ⟨⟨by omega, by omega⟩, by omega⟩
  refine qa ?_
  refine hk_cond rfl (fun hC1 => ?_) (fun hC1 => ?_)
  · (try simp only [nhs] at hC1)
    have hne : ¬ U1.getD y 0 = (y : Int) := by simpa using hC1
    refine qh (qa (ql (qm ?_)))
    refine hk_draw mixed (by kernel_rfl) fun K hK => runs_eval tab_ok ?_
    simp only [ev0, evA, evB, evP, fl, gp, tab, simprocAttr, ol_get (show y < U1.length by omega), hp, Int.ofNat_eq_natCast, Int.toNat_natCast, ol_get (show p < U1.length by omega), ol_set, hU2]
    refine fin_run ?_ (hK _ ?_) <;> clear hK <;> clear K
    · (first | exact trivial | omega | (simp only [In64] at *; omega) | (simp [In64] at *; omega) | (simp_all; done) | skip)
    refine qa ?_
    refine hk_region fun K hK => runs_eval tab_ok ?_
    simp only [ev0, evA, evB, evP, fl, gp, tab, simprocAttr, ol_get (show y < U2.length by omega), g2]
    refine fin_run ?_ (hK _ ?_) <;> clear hK <;> clear K
    · (first | exact trivial | omega | (simp only [In64] at *; omega) | (simp [In64] at *; omega) | (simp_all; done) | skip)
    refine qd (qa ?_)
    have hst : ofS (y + 1) U1 y = ofS (q + 1) U2 q := by
      rw [ofS, if_neg hne, hpn, hU2, hqn]
      exact ofS_fuel _ _ _ _ f1 (by omega) (by omega) (by omega)
    refine ⟨(q, U2), List.range (.own [.p (.int .i64 n), .sl 1 0 N.length, .sl 2 0 U.length, .p (.int .i64 most)] :: .own (rsl w N.length) :: .own (ol U2) :: (N.map rwB ++ X) : Heap).length, ⟨f1, l2, by simp only; omega, by rw [x4, hst]⟩, by simp only; omega, le_same rfl rfl (hHs U2 l2) (by
      rw [hHl]
      simp [St.get, lk, scA, sc1]; omega)⟩
  · (try simp only [nhs] at hC1)
    have hey : U1.getD y 0 = (y : Int) := by simpa using hC1
    have hst : ofS (v + 1) U v = (y, U1) := by rw [x4, ofS, if_pos hey]
    refine qj (qc (qc (qf (qa (qm ?_)))))
    refine hk_region fun K hK => runs_eval tab_ok ?_
    simp only [ev0, evA, evB, evP, fl, gp, tab, simprocAttr]
    refine fin_run trivial (hK _ ?_) <;> clear hK <;> clear K
    refine qa (qk ?_)
    simp only [Try.results73, PostG, endG, rvsA, rvA, mkTup, ev0, evA, evB, evP, fl, gp, tab, simprocAttr]
    have e1 : ofV U v = y := by rw [ofV, hst]
    have e2 : ofU U v = U1 := by rw [ofU, hst]
    rw [e1, e2, x2]
    exact ⟨List.range (.own [.p (.int .i64 n), .sl 1 0 N.length, .sl 2 0 U.length, .p (.int .i64 most)] :: .own (rsl w N.length) :: .own (ol U1) :: (N.map rwB ++ X) : Heap).length, rfl, rfl, le_same rfl rfl (hHs U1 x2) (by simp)⟩
end
end Go.Proofs.Ytneglephfhiamaa

namespace Go.Proofs.Ytneglephfhiamaa
open Go.Pv
theorem hget_N {N : List (List Int)} {X : Heap} {i : Nat} (h : i < N.length) : hget (N.map rwB ++ X) i = rwB (N.getD i []) := by
  rw [hget_app1 (by simpa using h), hget_eq]
  simp [List.getD, List.getElem?_map, List.getElem?_eq_getElem h]
theorem hset_N {N : List (List Int)} {X : Heap} {i : Nat} (h : i < N.length) (f : List Int) : hset (N.map rwB ++ X) i (rwB f) = (N.set i f).map rwB ++ X := by
  rw [hset_eq, List.set_append_left _ _ (by simpa using h), List.map_set]
theorem N_len (N : List (List Int)) : (N.map rwB).length = N.length := by simp
theorem CB_all {n most : Int} {w : Nat} {N : List (List Int)} {U : List Int} : (CB n most w N U).all (hsc (CB n most w N U).length) = true := by
  rw [List.all_eq_true, CB_len]
  exact CB_hsc (Nat.le_refl _)
theorem CB_na {n most : Int} {w : Nat} {N : List (List Int)} {U : List Int} : (CB n most w N U).all notAnc = true := by
  rw [List.all_eq_true]
  intro b hb
  unfold CB at hb
  simp only [List.mem_cons] at hb
  rcases hb with rfl | rfl | rfl | hb
  · rfl
  · rfl
  · rfl
  · obtain ⟨f, _, rfl⟩ := List.mem_map.1 hb; rfl
theorem mpKeep_rows : ∀ {N N' : List (List Int)}, N.length = N'.length → mpKeep (N.map rwB) (N'.map rwB) = true
  | [], [], _ => rfl
  | [], _ :: _, h => by simp at h
  | _ :: _, [], h => by simp at h
  | f :: r, g :: t, h => by
    show mpKeep (r.map rwB) (t.map rwB) = true
    exact mpKeep_rows (by simpa using h)
theorem CB_scP {n most : Int} {w : Nat} {N N' : List (List Int)} {U U' : List Int} {v : PV} (h : N'.length = N.length) : scP (CB n most w N U).length (.p v) (CB n most w N U) (CB n most w N' U') = true := by
  unfold scP
  have hm : mpKeep (CB n most w N U) (CB n most w N' U') = true := mpKeep_rows h.symm
  rw [CB_len, CB_len, h, hm, CB_na]
  have : (CB n most w N' U').all (hsc (N.length + 3)) = true := by
    rw [List.all_eq_true]
    exact CB_hsc (by omega)
  rw [this]
  simp [scA, sc1]
theorem col_c {x : Int} (hx : -1000 ≤ x ∧ x ≤ 1000) : FnC Try.prog 78 [.int .i64 x] (.int .i64 (cI x)) := by
  refine fnc_of tab_ok Try.func78 rfl (by kernel_rfl) (by rw [Try.ntmps78]; exact Nat.le_add_left 1 _) ?_; rw [Try.ntmps78]
  refine qm ?_
  refine hk_region fun K hK => runs_eval tab_ok ?_
  simp only [ev0, evA, evB, evP, fl, gp, tab, simprocAttr]
  refine fin_run trivial (hK _ ?_) <;> clear hK <;> clear K
  refine qa (qm (qm ?_))
  refine hk_region fun K hK => runs_eval tab_ok ?_
  simp only [ev0, evA, evB, evP, fl, gp, tab, simprocAttr]
  refine fin_run trivial (hK _ ?_) <;> clear hK <;> clear K
  refine qa ?_
  refine hk_cond rfl (fun hC1 => ?_) (fun hC1 => ?_)
  · (try simp only [nhs] at hC1)
    have h : 0 < x := by simpa using hC1
    refine qm ?_
    refine hk_region fun K hK => runs_eval tab_ok ?_
    simp only [ev0, evA, evB, evP, fl, gp, tab, simprocAttr]
    refine fin_run ?_ (hK _ ?_) <;> clear hK <;> clear K
    · (first | exact trivial | omega | (simp only [In64] at *; omega) | (simp [In64] at *; omega) | (simp_all; done) | skip)
    refine qa (qk (qb ?_))
    simp only [Try.results78, enA, ev0, evA, evB, evP, fl, gp, tab, simprocAttr]
    unfold cI
    first | rw [if_pos h] | rw [if_neg h]
  · (try simp only [nhs] at hC1)
    have h : ¬ 0 < x := by simpa using hC1
    refine qh (qa (qm ?_))
    refine hk_region fun K hK => runs_eval tab_ok ?_
    simp only [ev0, evA, evB, evP, fl, gp, tab, simprocAttr]
    refine fin_run ?_ (hK _ ?_) <;> clear hK <;> clear K
    · (first | exact trivial | omega | (simp only [In64] at *; omega) | (simp [In64] at *; omega) | (simp_all; done) | skip)
    refine qa (qk ?_)
    simp only [Try.results78, enA, ev0, evA, evB, evP, fl, gp, tab, simprocAttr]
    unfold cI
    first | rw [if_pos h] | rw [if_neg h]
section
variable {N : List (List Int)} {U : List Int} {n most : Int} {w : Nat}
theorem cof_w {m : Nat} (h : WR m N U) (hk : N.length ≤ 100000000) {v : Nat} (hv : v < N.length) : FnM Try.prog 73 [.ptr 0 0, .p (.int .i64 v)] (CB n most w N U) (.p (.int .i64 (ofV U v : Nat))) (CB n most w N (ofU U v)) := cof_c h.fo h.len hk hv
theorem runs_cof {m : Nat} {s : St} {all : Array Oper} {rest : List Oper} {K : St → Prop} {dst : Option Tmp} {ty : TypeId} {pos : String} {aft : Array Edge} {gd : Option (Nat × Bool)} {fo : Operand} {args : Array Operand} {ts : Array TypeId} {X : Heap}
    (h : WR m N U) (hk : N.length ≤ 100000000) {v : Nat} (hv : v < N.length) (hfo : s.ev fo = .p (.fn 73 [])) (hg : guardA all s { dst := dst, op := .call { callee := .value fo, args := args, argTypes := ts }, type := ty, pos := pos, after := aft, guard := gd } = some true)
    (hH : s.H = CB n most w N U ++ X) (hargs : args.toList.map s.ev ++ ([] : List PV).map .p = [.ptr 0 0, .p (.int .i64 v)]) (hd : dstOk s dst)
    (hK : Runs Try.prog false all rest K (({ s with H := CB n most w N (ofU U v) ++ X } : St).put dst (.p (.int .i64 (ofV U v : Nat))))) :
    Runs Try.prog false all ({ dst := dst, op := .call { callee := .value fo, args := args, argTypes := ts }, type := ty, pos := pos, after := aft, guard := gd } :: rest) K s :=
  runs_callP (cof_w h hk hv) hfo hg hH hargs (by rw [CB_len]; simp [scA, sc1]) CB_all CB_na (CB_scP rfl) hd hK
theorem runs2_cof {m : Nat} {s : St} {all : Array Oper} {rest : List Oper} {K : St → List I2 → Prop} {acc : List I2} {dst : Option Tmp} {ty : TypeId} {pos : String} {aft : Array Edge} {gd : Option (Nat × Bool)} {fo : Operand} {args : Array Operand} {ts : Array TypeId} {X : Heap}
    (h : WR m N U) (hk : N.length ≤ 100000000) {v : Nat} (hv : v < N.length) (hfo : s.ev fo = .p (.fn 73 [])) (hg : guardA all s { dst := dst, op := .call { callee := .value fo, args := args, argTypes := ts }, type := ty, pos := pos, after := aft, guard := gd } = some true)
    (hH : s.H = CB n most w N U ++ X) (hargs : args.toList.map s.ev ++ ([] : List PV).map .p = [.ptr 0 0, .p (.int .i64 v)]) (hd : dstOk s dst)
    (hK : Runs2 Try.prog all rest K (({ s with H := CB n most w N (ofU U v) ++ X } : St).put dst (.p (.int .i64 (ofV U v : Nat)))) (acc ++ [⟨.ms ((List.range (CB n most w N U).length).zip (CB n most w N (ofU U v))), .p (.int .i64 (ofV U v : Nat)), .dead, false⟩])) :
    Runs2 Try.prog all ({ dst := dst, op := .call { callee := .value fo, args := args, argTypes := ts }, type := ty, pos := pos, after := aft, guard := gd } :: rest) K s acc :=
  runs2_callP (cof_w h hk hv) hfo hg hH hargs (by rw [CB_len]; simp [scA, sc1]) CB_all CB_na (CB_scP rfl) hd hK
end
def Sc (k n0 : Nat) (X : Heap) (n most : Int) (w : Nat) (sl : List (Nat × PV)) (N : List (List Int)) (U : List Int) (W : List E3) : St :=
  ⟨134, (0, .ptr 0 0) :: (8, .sls (n0 + 1 + 1 + 1) 0 W.length 3) :: sl.map (fun p => (p.1, .p p.2)), .own [.p (.int .i64 n), .sl 1 0 k, .sl 2 0 k, .p (.int .i64 most)] :: .own (rsl w k) :: .own (ol U) :: (N.map rwB ++ (X ++ [.own (fw W)]))⟩
theorem leS_pure {π : List Nat} {s : St} : ∀ {sl : List (Nat × PV)}, (∀ p ∈ sl, s.get p.1 = .p p.2) → LeS π (sl.map fun p => (p.1, .p p.2)) s
  | [], _ => trivial
  | p :: r, h => ⟨h p (by simp), rfl, leS_pure fun q hq => h q (by simp [hq])⟩
theorem le_Sc {k n0 q : Nat} {X : Heap} {n most : Int} {w : Nat} {sl : List (Nat × PV)} {N : List (List Int)} {U : List Int} {W : List E3} {s : St} {d : List AV} (hN : N.length = k) (hU : U.length = k) (hX : X.length = k + 3) (hn0 : k + (k + 3) = n0) (hXs : ∀ b ∈ X, hsc (n0 + 3) b = true) (hn : s.n = 134) (hq : n0 + 3 ≤ q)
    (h0 : ∀ i, i < n0 + 3 → hget s.H i = hget (CB n most w N U ++ X) i) (hd : hget s.H q = .own d) (hW : fw W = d.take (W.length * 3)) (g0 : s.get 0 = .ptr 0 0) (g8 : s.get 8 = .sls q 0 W.length 3) (hsl : ∀ p ∈ sl, s.get p.1 = .p p.2) : Le (List.range (n0 + 3) ++ [q]) (Sc k n0 X n most w sl N U W) s := by
  have hBl : (CB n most w N U ++ X).length = n0 + 3 := by rw [List.length_append, CB_len, hX, hN]; omega
  have hBs : ∀ b ∈ (CB n most w N U ++ X), hsc (n0 + 3) b = true := CB_hscX (by omega) hXs
  have hmn : ∀ b : Blk, hsc (n0 + 3) b = true → hsc (n0 + 3 + 1) b = true := fun b h => by
    cases b with
    | own c => exact List.all_eq_true.2 fun x hx => scA_mn (Nat.le_succ _) ((List.all_eq_true.1 h) x hx)
    | anc i j => simp only [hsc, decide_eq_true_eq] at h ⊢; omega
    | _ => rfl
  have hπ0 : (List.range (n0 + 3) ++ [q]).getD 0 0 = 0 := by
    rw [List.getD_eq_getElem?_getD, List.getElem?_append_left (by simp)]
    simp
  have hπq : (List.range (n0 + 3) ++ [q]).getD (n0 + 1 + 1 + 1) 0 = q := by
    rw [List.getD_eq_getElem?_getD, List.getElem?_append_right (by simp)]
    simp
  refine le_behind (B := CB n most w N U ++ X) (c := fw W) (by rw [hn]; rfl) hBl ?_ (fun b hb => hmn b (hBs b hb)) hq hBs h0 hd ?_ (fw_sc _ _) ?_
  · unfold Sc CB cbx
    rw [hN, hU]
    simp
  · rw [fw_ren, fw_len]; exact hW
  · unfold Sc
    refine ⟨?_, ?_, ?_, ?_, leS_pure hsl⟩
    · rw [g0]; simp only [Go.Pv.ren, ren1, hπ0]
    · simp [scA, sc1]
    · rw [g8]; simp only [Go.Pv.ren, ren1, hπq]
    · simp [scA, sc1]
theorem hget_C {k n0 i : Nat} {X R : Heap} {n most : Int} {w : Nat} {N : List (List Int)} {U : List Int} (hN : N.length = k) (hU : U.length = k) (hX : X.length = k + 3) (hn0 : k + (k + 3) = n0) (hi : i < n0 + 3) :
    hget (.own [.p (.int .i64 n), .sl 1 0 k, .sl 2 0 k, .p (.int .i64 most)] :: .own (rsl w k) :: .own (ol U) :: (N.map rwB ++ (X ++ R))) i = hget (CB n most w N U ++ X) i := by
  have h := hget_app1 (H := CB n most w N U ++ X) (H2 := R) (j := i) (by rw [List.length_append, CB_len, hX, hN]; omega)
  rw [← h]
  unfold CB cbx
  rw [hN, hU]; simp
end Go.Proofs.Ytneglephfhiamaa

namespace Go.Proofs.Ytneglephfhiamaa
open Go.Pv
section
variable {N : List (List Int)} {U : List Int} {most : Int} {m : Nat}
theorem rg_get {r : List Int} {x : Int} (h : (cI x).toNat < r.length) : r.getD (cI x).toNat 0 = rg r x := by
  unfold rg
  rw [List.getD_eq_getElem?_getD, List.getD_eq_getElem?_getD, List.getElem?_eq_getElem h]; rfl
set_option maxHeartbeats 4000000 in
set_option maxRecDepth 20000 in
theorem set_c (hm : 1 ≤ m ∧ m ≤ 6) (h : WR m N U) (hk : N.length ≤ 100000000) {a b : Nat} {x : Int} (ha : a < N.length) (hb : b < N.length) (hx : x ≠ 0 ∧ -(m : Int) ≤ x ∧ x ≤ m) :
    FnM Try.prog 88 [.ptr 0 0, .p (.int .i64 a), .p (.int .i64 x), .p (.int .i64 b)] (CB m most (2 * m) N U) (.p (.tup [])) (CB m most (2 * m) (setR m N U a x b).1 (setR m N U a x b).2) := by
  obtain ⟨s1, s2, s3⟩ := setR_some h ha hb hx
  generalize setR m N U a x b = Z at s1 s2 s3 ⊢
  have hW0 : OkS m N.length [(b, -x, a), (a, x, b)] := fun t ht => by
    simp only [List.mem_cons, List.not_mem_nil, or_false] at ht
    rcases ht with rfl | rfl
    · exact ⟨hb, ha, by simp only; omega, by simp only; omega, by simp only; omega⟩
    · exact ⟨ha, hb, hx⟩
  unfold CB cbx
  refine fnm_of tab_ok Try.func88 rfl (by kernel_rfl) (by rw [Try.ntmps88]; exact Nat.le_add_left 4 _) ?_; rw [Try.ntmps88]; simp only [ancs, entA, List.length_cons, List.length_nil, List.cons_append, List.nil_append, Nat.reduceAdd, Nat.zero_add]
  have hXl : (.anc 0 0 :: .anc 1 1 :: .anc 2 2 :: ancs 3 (N.map rwB).length : Heap).length = N.length + 3 := by simp [ancs_length]
  have hXs : ∀ L, N.length + 3 ≤ L → ∀ b ∈ (.anc 0 0 :: .anc 1 1 :: .anc 2 2 :: ancs 3 (N.map rwB).length : Heap), hsc L b = true := fun L hL b hb => by
    have : (.anc 0 0 :: .anc 1 1 :: .anc 2 2 :: ancs 3 (N.map rwB).length : Heap) = ancs 0 (N.length + 3) := by rw [N_len]; rfl
    rw [this] at hb
    exact ancs_hsc (by omega) b hb
  generalize (.anc 0 0 :: .anc 1 1 :: .anc 2 2 :: ancs 3 (N.map rwB).length : Heap) = X at hXl hXs ⊢
  refine qm ?_
  refine hk_region fun K hK => runs_at 9 ?_
  simp only [List.take_succ_cons, List.take_zero, List.drop_succ_cons, List.drop_zero]
  refine runs_eval tab_ok ?_
  simp only [ev0, evA, evB, evP, fl, gp, tab, simprocAttr]
  refine fin_run ?_ ?_
  · simp only [In64]; omega
  refine runs_op (buildS_does (n := 2) (sz := 3) tab_ok rfl rfl rfl rfl rfl rfl rfl (by repeat (first | exact trivial | constructor)) rfl (by decide)) rfl (show (26 : Nat) < 134 by decide) (runs_eval tab_ok ?_)
  simp only [ev0, evA, evB, evP, fl, gp, tab, simprocAttr]
  refine fin_run trivial (hK _ ?_) <;> clear hK <;> clear K
  refine qa (ql ?_)
  obtain ⟨n0, hn0⟩ : ∃ n0, N.length + (N.length + 3) = n0 := ⟨_, rfl⟩
  have gR0 : ∀ (N' : List (List Int)) (b : Blk) (R : Heap), N'.length = N.length → hget (N'.map rwB ++ (X ++ (b :: R))) n0 = b := fun N' b R h => by
    rw [← List.append_assoc, hget_app2 (by rw [List.length_append, N_len, hXl]; omega)]
    rw [show n0 - (N'.map rwB ++ X).length = 0 by rw [List.length_append, N_len, hXl]; omega]; rfl
  have gR1 : ∀ (N' : List (List Int)) (b c : Blk) (R : Heap), N'.length = N.length → hget (N'.map rwB ++ (X ++ (b :: c :: R))) (n0 + 1) = c := fun N' b c R h => by
    rw [← List.append_assoc, hget_app2 (by rw [List.length_append, N_len, hXl]; omega)]
    rw [show n0 + 1 - (N'.map rwB ++ X).length = 1 by rw [List.length_append, N_len, hXl]; omega]; rfl
  have gS1 : ∀ (N' : List (List Int)) (b c d : Blk) (R : Heap), N'.length = N.length → hset (N'.map rwB ++ (X ++ (b :: c :: R))) (n0 + 1) d = N'.map rwB ++ (X ++ (b :: d :: R)) := fun N' b c d R h => by
    rw [← List.append_assoc, hset_eq, List.set_append_right _ _ (by rw [List.length_append, N_len, hXl]; omega)]
    rw [show n0 + 1 - (N'.map rwB ++ X).length = 1 by rw [List.length_append, N_len, hXl]; omega, List.append_assoc]; rfl
  have lR : ∀ (N' : List (List Int)) (R : Heap), N'.length = N.length → (N'.map rwB ++ (X ++ R)).length = n0 + R.length := fun N' R h => by
    rw [List.length_append, List.length_append, N_len, hXl]; omega
  have hXs3 := hXs (n0 + 3) (by omega)
  have hNX : (N.map rwB ++ X).length = n0 := by rw [List.length_append, N_len, hXl]; exact hn0
  rw [hNX, List.append_assoc]
  refine hk_loop (ι := Nat × List (List Int) × List Int × List E3) (fun q => Sc N.length n0 X m most (2 * m) [] q.2.1 q.2.2.1 q.2.2.2.reverse) (fun q => WR m q.2.1 q.2.2.1 ∧ q.2.1.length = N.length ∧ OkS m N.length q.2.2.2 ∧ mS m N.length q.2.2.1 q.2.2.2 ≤ N.length * (4 * m + 3) + 2 ∧ setF m q.1 q.2.1 q.2.2.1 q.2.2.2 = some Z) (fun q => q.1) (N.length * (4 * m + 3) + 2, N, U, [(b, -x, a), (a, x, b)]) ⟨h, rfl, hW0, by
      have := Nat.mul_le_mul_right (4 * m + 3) (nr_le U N.length)
      unfold mS
      simp only [List.length_cons, List.length_nil]; omega, s1⟩ (List.range (n0 + 3) ++ [n0 + 3]) (le_Sc (d := fw [(a, x, b), (b, -x, a)]) rfl h.len hXl hn0 hXs3 rfl (Nat.le_refl _) (fun i hi => by
      simp only [h.len]; exact hget_C rfl h.len hXl hn0 hi) (gR0 N _ [] rfl) (List.take_of_length_le (Nat.le_refl _)).symm rfl rfl (fun p hp => by cases hp)) fun q hq => ?_
  obtain ⟨j, N1, U1, S1⟩ := q
  obtain ⟨w1, l1, o1, bd, sf⟩ := hq
  simp only at w1 l1 o1 bd sf
  show Holds _ _ _ (Sc N.length n0 X m most (2 * m) [] N1 U1 S1.reverse)
  unfold Sc
  refine qm (qm ?_)
  refine hk_region fun K hK => runs_eval tab_ok ?_
  simp only [ev0, evA, evB, evP, fl, gp, tab, simprocAttr]
  refine fin_stop ?_ (runs_op (lenS_does tab_ok rfl rfl rfl rfl) rfl (by simp only [dstOk, Nat.reduceLT]) (runs_eval tab_ok ?_))
  · (first | exact trivial | omega | (simp only [In64] at *; omega) | (simp [In64] at *; omega) | (simp_all; done) | skip)
  simp only [ev0, evA, evB, evP, fl, gp, tab, simprocAttr]
  refine fin_run trivial (hK _ ?_) <;> clear hK <;> clear K
  refine qa ?_
  refine hk_cond rfl (fun hC1 => ?_) (fun hC1 => ?_)
  · (try simp only [nhs] at hC1)
    have hne : S1 ≠ [] := fun e => by subst e; simp at hC1
    obtain ⟨t, W, rfl⟩ : ∃ t W, S1 = t :: W := by
      cases S1 with
      | nil => exact absurd rfl hne
      | cons t W => exact ⟨t, W, rfl⟩
    obtain ⟨c1, y, c2⟩ := t
    obtain ⟨j, rfl⟩ : ∃ j', j = j' + 1 := by
      cases j with
      | zero => simp [setF] at sf
      | succ j => exact ⟨j, rfl⟩
    have so := setS_ok w1 (by rw [l1]; exact o1)
    obtain ⟨n, hn⟩ : ∃ n, W.length = n := ⟨_, rfl⟩
    have hrv : ((c1, y, c2) :: W).reverse = W.reverse ++ [(c1, y, c2)] := by simp
    rw [hrv] at *
    have hl1 : (W.reverse ++ [(c1, y, c2)]).length = n + 1 := by rw [List.length_append, List.length_reverse, hn]; rfl
    have hsub : ((n + 1 : Nat) : Int) - 1 = (n : Int) := by omega
    have hfl := fw_last W.reverse c1 c2 y
    rw [List.length_reverse, hn] at hfl
    obtain ⟨hc1, hc2, hy⟩ := o1 (c1, y, c2) (by simp)
    simp only at hc1 hc2 hy
    have hnb : n ≤ 2700000100 := by
      have h1 : (4 * m + 3) ≤ 27 := by omega
      have h2 := Nat.mul_le_mul hk h1
      unfold mS at bd
      rw [List.length_cons, hn] at bd
      omega
    rw [hl1]
    refine qh (qa (ql (qm ?_)))
    refine hk_region fun K hK => runs_eval tab_ok ?_
    simp only [ev0, evA, evB, evP, fl, gp, tab, simprocAttr, hsub, hfl, gR0 N1 _ _ l1, gR1 N1 _ _ _ l1, gS1 N1 _ _ _ _ l1, lR N1 _ l1, List.append_assoc, Int.toNat_natCast, Nat.zero_add]
    refine fin_stop ?_ (runs_op (lenS_does tab_ok rfl rfl rfl rfl) rfl (by simp only [dstOk, Nat.reduceLT]) (runs_eval tab_ok ?_))
    · exact trivial
    simp only [ev0, evA, evB, evP, fl, gp, tab, simprocAttr, hsub, hfl, gR0 N1 _ _ l1, gR1 N1 _ _ _ l1, gS1 N1 _ _ _ _ l1, lR N1 _ l1, List.append_assoc, Int.toNat_natCast, Nat.zero_add]
    refine fin_stop ?_ (runs_op (idxS_does tab_ok rfl rfl rfl rfl rfl rfl rfl (by omega) (by omega)) rfl (by simp only [dstOk, Nat.reduceLT]) (runs_eval tab_ok ?_))
    · simp only [In64]; omega
    simp only [ev0, evA, evB, evP, fl, gp, tab, simprocAttr, hsub, hfl, gR0 N1 _ _ l1, gR1 N1 _ _ _ l1, gS1 N1 _ _ _ _ l1, lR N1 _ l1, List.append_assoc, Int.toNat_natCast, Nat.zero_add]
    refine fin_run ?_ (hK _ ?_) <;> clear hK <;> clear K
    · rw [fw_len, hl1]; omega
    refine qa (qm ?_)
    refine hk_region fun K hK => runs_eval tab_ok ?_
    simp only [ev0, evA, evB, evP, fl, gp, tab, simprocAttr, hsub, Int.toNat_natCast]
    refine fin_stop ?_ (runs_op (lenS_does tab_ok rfl rfl rfl rfl) rfl (by simp only [dstOk, Nat.reduceLT]) (runs_eval tab_ok ?_))
    · exact trivial
    simp only [ev0, evA, evB, evP, fl, gp, tab, simprocAttr, hsub, Int.toNat_natCast]
    refine fin_stop ?_ (runs_op (cutS_does tab_ok rfl rfl rfl rfl rfl rfl rfl (by omega) (by omega) (by omega)) rfl (by simp only [dstOk, Nat.reduceLT]) (runs_eval tab_ok ?_))
    · simp only [In64]; omega
    simp only [ev0, evA, evB, evP, fl, gp, tab, simprocAttr, hsub, Int.toNat_natCast]
    refine fin_run ?_ (hK _ ?_) <;> clear hK <;> clear K
    · trivial
    refine qa (qm ?_)
    refine hk_freeze (n0 + 1 + 1 + 1 + 1) (gR1 N1 _ _ _ l1) rfl ?_
    simp only [hset, gS1 N1 _ _ _ _ l1]
    refine hk_pure 9 (p := 0 ≤ 3) (pv := .ptr [.int .i64 c1, .int .i64 y, .int .i64 c2]) (by
      show peekG _ (.ptr (n0 + 1 + 1 + 1 + 1) 0) = _
      simp only [peekG, peekS, hget, gR1 N1 _ _ _ l1]
      rfl) (by decide) ?_
    have hCBk : ∀ (U2 : List Int) (Y : Heap), U2.length = N.length → CB m most (2 * m) N1 U2 ++ Y = .own [.p (.int .i64 m), .sl 1 0 N.length, .sl 2 0 N.length, .p (.int .i64 most)] :: .own (rsl (2 * m) N.length) :: .own (ol U2) :: (N1.map rwB ++ Y) := fun U2 Y h => by
      unfold CB cbx; rw [l1, h]; rfl
    obtain ⟨U2, hU2⟩ : ∃ U2, ofU U1 c1 = U2 := ⟨_, rfl⟩
    have w2 : WR m N1 U2 := hU2 ▸ w1.of (by omega)
    obtain ⟨U3, hU3⟩ : ∃ U3, ofU U2 c2 = U3 := ⟨_, rfl⟩
    have w3 : WR m N1 U3 := hU3 ▸ w2.of (by omega)
    obtain ⟨p, hp⟩ : ∃ p, ofV U1 c1 = p := ⟨_, rfl⟩
    obtain ⟨q, hq⟩ : ∃ q, ofV U2 c2 = q := ⟨_, rfl⟩
    have hpl : p < N.length := by
      rw [← hp, ofV_eq w1.fo (by rw [w1.len]; omega)]
      have := rV_le w1.fo c1 (by rw [w1.len]; omega)
      omega
    have hql : q < N.length := by
      rw [← hq, ofV_eq w2.fo (by rw [w2.len]; omega)]
      have := rV_le w2.fo c2 (by rw [w2.len]; omega)
      omega
    have hlen1 : U1.length = N.length := by rw [w1.len]; exact l1
    have hlen2 : U2.length = N.length := by rw [w2.len]; exact l1
    have hlen3 : U3.length = N.length := by rw [w3.len]; exact l1
    refine hk_draw2 mixed fun K hK => runs2_eval tab_ok ?_
    simp only [evD, ev0, evA, evB, evP, fl, gp, tab, simprocAttr]
    refine fin2_stop ?_ (runs2_cof (U := U1) (X := X ++ [.own (fw (W.reverse ++ [(c1, y, c2)])), .fro [.int .i64 c1, .int .i64 y, .int .i64 c2]]) w1 (by omega) (v := c1) (by omega) rfl rfl (hCBk _ _ hlen1).symm rfl (by simp only [dstOk, Nat.reduceLT]) (runs2_eval tab_ok ?_))
    · exact trivial
    simp only [hU2, hp, hCBk U2 _ hlen2, evD, ev0, evA, evB, evP, fl, gp, tab, simprocAttr]
    refine fin2_stop ?_ (runs2_cof (U := U2) (X := X ++ [.own (fw (W.reverse ++ [(c1, y, c2)])), .fro [.int .i64 c1, .int .i64 y, .int .i64 c2]]) w2 (by omega) (v := c2) (by omega) rfl rfl (hCBk _ _ hlen2).symm rfl (by simp only [dstOk, Nat.reduceLT]) (runs2_eval tab_ok ?_))
    · exact trivial
    simp only [hU3, hq, hCBk U3 _ hlen3, evD, ev0, evA, evB, evP, fl, gp, tab, simprocAttr]
    refine fin2_run ?_ (hK _ _ (draw2_sw (by kernel_rfl)) ?_) <;> clear hK <;> clear K
    · exact trivial
    refine qa (qm ?_)
    have hrow := (w1.at (a := p) (by omega)).1
    obtain ⟨cy, hcy⟩ : ∃ c, (cI y).toNat = c := ⟨_, rfl⟩
    obtain ⟨y1, y2⟩ := cI_lt (n := m) hy.1 hy.2.1 hy.2.2
    have hcyI : cI y = (cy : Int) := by omega
    have hrgd : (N1.getD p []).getD cy 0 = rg (N1.getD p []) y := by rw [← hcy]; exact rg_get (by omega)
    have gM : ∀ Y : Heap, hget (N1.map rwB ++ Y) p = rwB (N1.getD p []) := fun Y => hget_N (by omega)
    obtain ⟨rp, hrp⟩ : ∃ r, N1.getD p [] = r := ⟨_, rfl⟩
    rw [hrp] at hrow hrgd gM
    obtain ⟨u, hu⟩ : ∃ u, rg rp y = u := ⟨_, rfl⟩
    rw [hu] at hrgd
    refine hk_draw mixed (by kernel_rfl) fun K hK => runs_eval tab_ok ?_
    simp only [ev0, evA, evB, evP, fl, gp, tab, simprocAttr, rsl_get hpl, gM, rwB, Int.toNat_natCast, rsl_len, Int.ofNat_eq_natCast, hcyI, ol_get (show cy < rp.length by omega), hrgd]
    refine fin_stop ?_ (runs_call (col_c (by omega)) rfl rfl rfl (by simp only [dstOk, Nat.reduceLT]) (by repeat (first | exact trivial | constructor)) (runs_eval tab_ok ?_))
    · exact ⟨⟨by omega, by omega⟩, hpl⟩
    simp only [ev0, evA, evB, evP, fl, gp, tab, simprocAttr, rsl_get hpl, gM, rwB, Int.toNat_natCast, rsl_len, Int.ofNat_eq_natCast, hcyI, ol_get (show cy < rp.length by omega), hrgd]
    refine fin_run ?_ (hK _ ?_) <;> clear hK <;> clear K
    · (first | exact trivial | omega | (simp only [In64] at *; omega) | (simp [In64] at *; omega) | (simp_all; done) | skip)
    refine qa (qm (qm ?_))
    refine hk_region fun K hK => runs_eval tab_ok ?_
    simp only [ev0, evA, evB, evP, fl, gp, tab, simprocAttr]
    refine fin_run trivial (hK _ ?_) <;> clear hK <;> clear K
    refine qa ?_
    refine hk_cond rfl (fun hC2 => ?_) (fun hC2 => ?_)
    · (try simp only [nhs] at hC2)
      have hf : u < 0 := by simpa using hC2
      have hse : setS m N1 U1 (c1, y, c2) W = (N1.set p (rp.set cy (q : Nat)), U3, W) := by
        unfold setS
        simp only [hp, hU2, hq, hU3, hrp, hu, hcy]
        rw [if_pos hf]
      refine qm ?_
      refine hk_draw mixed (by kernel_rfl) fun K hK => runs_eval tab_ok ?_
      simp only [ev0, evA, evB, evP, fl, gp, tab, simprocAttr, rsl_get hpl, gM, rwB, Int.toNat_natCast, rsl_len, Int.ofNat_eq_natCast, hcyI, ol_get (show cy < rp.length by omega), ol_set]
      refine fin_stop ?_ (runs_call (col_c (by omega)) rfl rfl rfl (by simp only [dstOk, Nat.reduceLT]) (by repeat (first | exact trivial | constructor)) (runs_eval tab_ok ?_))
      · exact ⟨⟨by omega, by omega⟩, hpl⟩
      simp only [ev0, evA, evB, evP, fl, gp, tab, simprocAttr, rsl_get hpl, gM, rwB, Int.toNat_natCast, rsl_len, Int.ofNat_eq_natCast, hcyI, ol_get (show cy < rp.length by omega), ol_set]
      refine fin_run ?_ (hK _ ?_) <;> clear hK <;> clear K
      · (first | exact trivial | omega | (simp only [In64] at *; omega) | (simp [In64] at *; omega) | (simp_all; done) | skip)
      refine qa (qj (qc (qf (qa ?_))))
      have hM : Blk.own (ol (rp.set cy (q : Int))) = rwB (rp.set cy (q : Int)) := rfl
      rw [hM, hset_N (by omega)]
      rw [hse] at so
      have sf' : setF m j (N1.set p (rp.set cy (q : Int))) U3 W = some Z := by
        have : setF m (j + 1) N1 U1 ((c1, y, c2) :: W) = setF m j (setS m N1 U1 (c1, y, c2) W).1 (setS m N1 U1 (c1, y, c2) W).2.1 (setS m N1 U1 (c1, y, c2) W).2.2 := rfl
        rw [this, hse] at sf
        exact sf
      simp only at so
      rw [l1] at so
      obtain ⟨so1, so2, so3, so4⟩ := so
      refine ⟨(j, N1.set p (rp.set cy (q : Int)), U3, W), List.range (n0 + 3) ++ [n0 + 3], ⟨so1, so2, so3, by simp only; omega, sf'⟩, by simp only; omega, ?_⟩
      refine le_Sc (d := fw (W.reverse ++ [(c1, y, c2)])) so2 hlen3 hXl hn0 hXs3 rfl (Nat.le_refl _) (fun i hi => ?_) (gR0 _ _ _ so2) (fw_take _ _).symm rfl (by rw [List.length_reverse, hn]; rfl) (fun p hp => by cases hp)
      exact hget_C so2 hlen3 hXl hn0 hi
    · (try simp only [nhs] at hC2)
      have hu0 : ¬ u < 0 := by simpa using hC2
      obtain ⟨d, rfl⟩ := Int.eq_ofNat_of_zero_le (show 0 ≤ u by omega)
      have hdl : d < N.length := by
        have := w1.rg (a := p) (x := y) (by omega) (by rw [hrp, hu]; omega)
        rw [hrp, hu] at this
        omega
      try simp only [Int.ofNat_eq_natCast]
      obtain ⟨U4, hU4⟩ : ∃ U4, ofU U3 d = U4 := ⟨_, rfl⟩
      have w4 : WR m N1 U4 := hU4 ▸ w3.of (by omega)
      have hlen4 : U4.length = N.length := by rw [w4.len]; exact l1
      obtain ⟨r, hr⟩ : ∃ r, ofV U3 d = r := ⟨_, rfl⟩
      have hrl : r < N.length := by
        rw [← hr, ofV_eq w3.fo (by rw [w3.len]; omega)]
        have := rV_le w3.fo d (by rw [w3.len]; omega)
        omega
      refine qh (qa (qm (qm ?_)))
      refine hk_region fun K hK => runs_eval tab_ok ?_
      simp only [ev0, evA, evB, evP, fl, gp, tab, simprocAttr]
      refine fin_stop ?_ (runs_cof (U := U3) (X := X ++ [.own (fw (W.reverse ++ [(c1, y, c2)])), .fro [.int .i64 c1, .int .i64 y, .int .i64 c2]]) w3 (by omega) (v := d) (by omega) rfl rfl (hCBk _ _ hlen3).symm rfl (by simp only [dstOk, Nat.reduceLT]) (runs_eval tab_ok ?_))
      · exact trivial
      simp only [hU4, hr, hCBk U4 _ hlen4, ev0, evA, evB, evP, fl, gp, tab, simprocAttr]
      refine fin_run trivial (hK _ ?_) <;> clear hK <;> clear K
      refine qa (qm ?_)
      refine hk_region fun K hK => runs_eval tab_ok ?_
      simp only [ev0, evA, evB, evP, fl, gp, tab, simprocAttr]
      refine fin_run trivial (hK _ ?_) <;> clear hK <;> clear K
      refine qa ?_
      refine hk_cond rfl (fun hC3 => ?_) (fun hC3 => ?_)
      · (try simp only [nhs] at hC3)
        refine qj (qc (qf (qa ?_)))
        have hrq : r = q := by omega
        have hse : setS m N1 U1 (c1, y, c2) W = (N1, U4, W) := by
          unfold setS
          simp only [hp, hU2, hq, hU3, hrp, hu, hcy]
          rw [if_neg (by omega)]
          simp only [Int.toNat_natCast, hr, hU4]
          rw [if_pos hrq]
        rw [hse] at so
        have sf' : setF m j N1 U4 W = some Z := by
          have : setF m (j + 1) N1 U1 ((c1, y, c2) :: W) = setF m j (setS m N1 U1 (c1, y, c2) W).1 (setS m N1 U1 (c1, y, c2) W).2.1 (setS m N1 U1 (c1, y, c2) W).2.2 := rfl
          rw [this, hse] at sf
          exact sf
        simp only at so
        rw [l1] at so
        obtain ⟨so1, so2, so3, so4⟩ := so
        refine ⟨(j, N1, U4, W), List.range (n0 + 3) ++ [n0 + 3], ⟨so1, l1, so3, by simp only; omega, sf'⟩, by simp only; omega, ?_⟩
        refine le_Sc (d := fw (W.reverse ++ [(c1, y, c2)])) l1 hlen4 hXl hn0 hXs3 rfl (Nat.le_refl _) (fun i hi => ?_) (gR0 _ _ _ l1) (fw_take _ _).symm rfl (by rw [List.length_reverse, hn]; rfl) (fun p hp => by cases hp)
        exact hget_C l1 hlen4 hXl hn0 hi
      · (try simp only [nhs] at hC3)
        have hne2 : r ≠ q := by
          intro e; apply hC3; simp [e]
        obtain ⟨keep, gone, hkg, hmin, hmax, hkq⟩ : ∃ keep gone : Nat, keep < gone ∧ (if (q : Int) < (r : Int) then (q : Int) else (r : Int)) = (keep : Int) ∧ (if (q : Int) > (r : Int) then (q : Int) else (r : Int)) = (gone : Int) ∧ ((keep = q ∧ gone = r) ∨ (keep = r ∧ gone = q)) := by
          rcases Nat.lt_or_gt_of_ne hne2 with h | h
          · exact ⟨r, q, h, by rw [if_neg (by omega)], by rw [if_pos (by omega)], .inr ⟨rfl, rfl⟩⟩
          · exact ⟨q, r, h, by rw [if_pos (by omega)], by rw [if_neg (by omega)], .inl ⟨rfl, rfl⟩⟩
        have hgl : gone < N.length := by rcases hkq with ⟨_, h⟩ | ⟨_, h⟩ <;> omega
        have hkl : keep < N.length := by omega
        obtain ⟨U5, hU5⟩ : ∃ U5, U4.set gone (keep : Int) = U5 := ⟨_, rfl⟩
        have l5 : U5.length = N.length := by rw [← hU5, List.length_set]; exact hlen4
        refine qh (qa (qm ?_))
        refine hk_region fun K hK => runs_eval tab_ok ?_
        simp only [ev0, evA, evB, evP, fl, gp, tab, simprocAttr, hmin, hmax]
        refine fin_run ?_ (hK _ ?_) <;> clear hK <;> clear K
        · (first | exact trivial | omega | (simp only [In64] at *; omega) | (simp [In64] at *; omega) | (simp_all; done) | skip)
        refine qa (qm ?_)
        refine hk_region fun K hK => runs_eval tab_ok ?_
        simp only [ev0, evA, evB, evP, fl, gp, tab, simprocAttr, ol_get (show gone < U4.length by omega), ol_set, Int.toNat_natCast, Int.ofNat_eq_natCast, hU5]
        refine fin_run ?_ (hK _ ?_) <;> clear hK <;> clear K
        · exact ⟨⟨by omega, by omega⟩, by omega⟩
        refine qa (qm ?_)
        refine hk_region fun K hK => runs_eval tab_ok ?_
        simp only [ev0, evA, evB, evP, fl, gp, tab, simprocAttr]
        refine fin_run ?_ (hK _ ?_) <;> clear hK <;> clear K
        · (first | exact trivial | omega | (simp only [In64] at *; omega) | (simp [In64] at *; omega) | (simp_all; done) | skip)
        refine qa (ql ?_)
        obtain ⟨gr, hgr⟩ : ∃ g, N1.getD gone [] = g := ⟨_, rfl⟩
        obtain ⟨grow, gent⟩ := w1.at (a := gone) (by omega)
        have grg : ∀ x, ¬ rg gr x < 0 → (rg gr x).toNat < N.length := fun x hx => by rw [← l1, ← hgr]; exact w1.rg (by omega) (by rw [hgr]; exact hx)
        rw [hgr] at grow
        have gG : ∀ Y : Heap, hget (N1.map rwB ++ Y) gone = rwB gr := fun Y => by rw [← hgr]; exact hget_N (by omega)
        have gS0 : ∀ (b d : Blk) (R : Heap), hset (N1.map rwB ++ (X ++ (b :: R))) n0 d = N1.map rwB ++ (X ++ (d :: R)) := fun b d R => by
          rw [← List.append_assoc, hset_eq, List.set_append_right _ _ (by rw [List.length_append, N_len, hXl]; omega)]
          rw [show n0 - (N1.map rwB ++ X).length = 0 by rw [List.length_append, N_len, hXl]; omega, List.append_assoc]; rfl
        have hse : setS m N1 U1 (c1, y, c2) W = (N1, U5, (ltn m).foldl (psh gr keep) W) := by
          unfold setS
          simp only [hp, hU2, hq, hU3, hrp, hu, hcy]
          rw [if_neg (by omega)]
          simp only [Int.toNat_natCast, hr, hU4]
          rw [if_neg hne2, show min r q = keep by omega, show max r q = gone by omega, hgr, hU5]
        have tkS : ∀ i, i < 2 * m + 1 → (ltn m).take (i + 1) = (ltn m).take i ++ [(i : Int) - m] := fun i hi => by
          rw [List.take_succ]
          congr 1
          unfold ltn
          rw [List.getElem?_map, List.getElem?_range hi]; rfl
        refine hk_loop (ι := Nat) (fun i => Sc N.length n0 X m most (2 * m) [(13, .int .i64 keep), (14, .int .i64 gone), (15, .int .i64 ((i : Int) - m))] N1 U5 (((ltn m).take i).foldl (psh gr keep) W).reverse) (fun i => i ≤ 2 * m + 1) (fun i => 2 * m + 1 - i) 0 (Nat.zero_le _) (List.range (n0 + 3) ++ [n0 + 3]) (le_Sc (d := fw (W.reverse ++ [(c1, y, c2)])) l1 l5 hXl hn0 hXs3 rfl (Nat.le_refl _) (fun i hi => hget_C l1 l5 hXl hn0 hi) (gR0 _ _ _ l1) (by
            show fw W.reverse = _
            rw [List.take_zero, List.foldl_nil]
            exact (fw_take _ _).symm) rfl (by rw [List.take_zero, List.foldl_nil, List.length_reverse, hn]; rfl) (fun p hp => by
            simp only [List.mem_cons, List.not_mem_nil, or_false] at hp
            rcases hp with rfl | rfl | rfl
            · rfl
            · rfl
            · simp [St.get, St.put, lk])) fun i hi => ?_
        obtain ⟨Si, hSi⟩ : ∃ S, ((ltn m).take i).foldl (psh gr keep) W = S := ⟨_, rfl⟩
        have hSl : Si.length ≤ n + 2 * i := by
          rw [← hSi]
          have := psh_len gr keep ((ltn m).take i) W
          rw [List.length_take, hn] at this
          omega
        show Holds _ _ _ (Sc N.length n0 X m most (2 * m) _ N1 U5 (((ltn m).take i).foldl (psh gr keep) W).reverse)
        rw [hSi]
        unfold Sc
        simp only [List.map_cons, List.map_nil]
        refine qm (qm ?_)
        refine hk_region fun K hK => runs_eval tab_ok ?_
        simp only [ev0, evA, evB, evP, fl, gp, tab, simprocAttr]
        refine fin_run ?_ (hK _ ?_) <;> clear hK <;> clear K
        · (first | exact trivial | omega | (simp only [In64] at *; omega) | (simp [In64] at *; omega) | (simp_all; done) | skip)
        refine qa ?_
        refine hk_cond rfl (fun hC4 => ?_) (fun hC4 => ?_)
        · (try simp only [nhs] at hC4)
          have hil : i < 2 * m + 1 := by omega
          have hx1 : -(m : Int) ≤ (i : Int) - m := by omega
          have hx2 : (i : Int) - m ≤ m := by omega
          obtain ⟨z, hz⟩ : ∃ z, (i : Int) - m = z := ⟨_, rfl⟩
          have hS1 : ((ltn m).take (i + 1)).foldl (psh gr keep) W = psh gr keep Si z := by
            rw [tkS i hil, List.foldl_append, hSi, List.foldl_cons, List.foldl_nil, hz]
          have hz1 : ((i + 1 : Nat) : Int) - m = z + 1 := by omega
          rw [hz] at hx1 hx2 ⊢
          obtain ⟨li, hli⟩ : ∃ l, Si.reverse.length = l := ⟨_, rfl⟩
          have hli2 : li ≤ 2700000200 := by rw [← hli, List.length_reverse]; omega
          rw [hli]
          refine qh (qa (qm (ql (qm (qm ?_)))))
          refine hk_region fun K hK => runs_eval tab_ok ?_
          simp only [ev0, evA, evB, evP, fl, gp, tab, simprocAttr]
          refine fin_run trivial (hK _ ?_) <;> clear hK <;> clear K
          refine qa ?_
          refine hk_cond rfl (fun hC5 => ?_) (fun hC5 => ?_)
          · (try simp only [nhs] at hC5)
            refine qj (qc (qf (qa ?_)))
            refine hk_region fun K hK => runs_eval tab_ok ?_
            simp only [ev0, evA, evB, evP, fl, gp, tab, simprocAttr]
            refine fin_run ?_ (hK _ ?_) <;> clear hK <;> clear K
            · (first | exact trivial | omega | (simp only [In64] at *; omega) | (simp [In64] at *; omega) | (simp_all; done) | skip)
            refine qa ?_
            have hz0 : z = 0 := by omega
            refine ⟨i + 1, List.range (n0 + 3) ++ [n0 + 3], by omega, by omega, ?_⟩
            have hS2 : ((ltn m).take (i + 1)).foldl (psh gr keep) W = Si := by rw [hS1]; unfold psh; rw [if_pos hz0]
            simp only [hS2, hz1]
            show Le _ (Sc N.length n0 X m most (2 * m) [(13, .int .i64 keep), (14, .int .i64 gone), (15, .int .i64 (z + 1))] N1 U5 Si.reverse) _
            refine le_Sc (d := fw Si.reverse) l1 l5 hXl hn0 hXs3 rfl (Nat.le_refl _) (fun i hi => hget_C l1 l5 hXl hn0 hi) (gR0 _ _ _ l1) (List.take_of_length_le (by rw [fw_len]; exact Nat.le_refl _)).symm rfl (by rw [hli]; rfl) (fun p hp => by
                simp only [List.mem_cons, List.not_mem_nil, or_false] at hp
                rcases hp with rfl | rfl | rfl <;> rfl)
          · (try simp only [nhs] at hC5)
            have hz0 : z ≠ 0 := by
              intro e; apply hC5; simp [e]
            obtain ⟨cz, hcz⟩ : ∃ c, (cI z).toNat = c := ⟨_, rfl⟩
            obtain ⟨z1, z2⟩ := cI_lt (n := m) hz0 hx1 hx2
            have hczI : cI z = (cz : Int) := by omega
            have hrgz : gr.getD cz 0 = rg gr z := by rw [← hcz]; exact rg_get (by omega)
            obtain ⟨v, hv⟩ : ∃ u, rg gr z = u := ⟨_, rfl⟩
            rw [hv] at hrgz
            refine qh (qa (qm ?_))
            refine hk_draw mixed (by kernel_rfl) fun K hK => runs_eval tab_ok ?_
            simp only [ev0, evA, evB, evP, fl, gp, tab, simprocAttr, rsl_get hgl, gG, rwB, Int.toNat_natCast, rsl_len, Int.ofNat_eq_natCast, hczI, ol_get (show cz < gr.length by omega), hrgz]
            refine fin_stop ?_ (runs_call (col_c (by omega)) rfl rfl rfl (by simp only [dstOk, Nat.reduceLT]) (by repeat (first | exact trivial | constructor)) (runs_eval tab_ok ?_))
            · exact ⟨⟨by omega, by omega⟩, hgl⟩
            simp only [ev0, evA, evB, evP, fl, gp, tab, simprocAttr, rsl_get hgl, gG, rwB, Int.toNat_natCast, rsl_len, Int.ofNat_eq_natCast, hczI, ol_get (show cz < gr.length by omega), hrgz]
            refine fin_run ?_ (hK _ ?_) <;> clear hK <;> clear K
            · (first | exact trivial | omega | (simp only [In64] at *; omega) | (simp [In64] at *; omega) | (simp_all; done) | skip)
            refine qa (qm ?_)
            refine hk_region fun K hK => runs_eval tab_ok ?_
            simp only [ev0, evA, evB, evP, fl, gp, tab, simprocAttr]
            refine fin_run trivial (hK _ ?_) <;> clear hK <;> clear K
            refine qa ?_
            refine hk_cond rfl (fun hC6 => ?_) (fun hC6 => ?_)
            · (try simp only [nhs] at hC6)
              have hv0 : 0 ≤ v := by simpa using hC6
              obtain ⟨dz, rfl⟩ := Int.eq_ofNat_of_zero_le hv0
              have hdl2 : dz < N.length := by
                have := grg z (by rw [hv]; omega)
                rw [hv] at this
                omega
              refine hk_region fun K hK => runs_eval tab_ok ?_
              simp only [ev0, evA, evB, evP, fl, gp, tab, simprocAttr, Int.toNat_natCast, Int.ofNat_eq_natCast, gS0, List.append_assoc]
              refine fin_stop ?_ (runs_op (appS_does (sz := 3) (k := n0 + 3) (lo := 0) (len := li) (c := fw Si.reverse) (l := [PV.agg [.int .i64 keep, .int .i64 z, .int .i64 dz], PV.agg [.int .i64 dz, .int .i64 (-z), .int .i64 keep]]) tab_ok rfl rfl rfl rfl rfl rfl (by decide) (by decide) rfl (gR0 N1 _ [] l1) rfl (by intro x hx; simp at hx; rcases hx with rfl | rfl <;> rfl) (by intro x hx; simp at hx; rcases hx with rfl | rfl <;> rfl) (show 0 < 2 by decide) (by rw [fw_len, hli]; omega) (by rw [fw_dropt hli]; exact fw_ok _) (by show (li + 2) * 24 ≤ _; omega) (by show (li + 2) * 3 ≤ _; omega) (by show li + 2 ≤ _; omega)) rfl (by simp only [dstOk, Nat.reduceLT]) (runs_eval tab_ok ?_))
              · simp only [In64]; omega
              simp only [ev0, evA, evB, evP, fl, gp, tab, simprocAttr, Int.toNat_natCast, Int.ofNat_eq_natCast, gS0, List.append_assoc]
              refine fin_run ?_ (hK _ ?_) <;> clear hK <;> clear K
              · (first | exact trivial | omega | (simp only [In64] at *; omega) | (simp [In64] at *; omega) | (simp_all; done) | skip)
              refine qd (qa ?_)
              refine hk_region fun K hK => runs_eval tab_ok ?_
              simp only [ev0, evA, evB, evP, fl, gp, tab, simprocAttr]
              refine fin_run ?_ (hK _ ?_) <;> clear hK <;> clear K
              · (first | exact trivial | omega | (simp only [In64] at *; omega) | (simp [In64] at *; omega) | (simp_all; done) | skip)
              refine qa ?_
              have hS2 : ((ltn m).take (i + 1)).foldl (psh gr keep) W = (dz, -z, keep) :: (keep, z, dz) :: Si := by
                rw [hS1]; unfold psh; rw [if_neg hz0, hv, if_neg (by omega), Int.toNat_natCast]
              refine ⟨i + 1, List.range (n0 + 3) ++ [n0 + 3 + 1], by omega, by omega, ?_⟩
              simp only [hS2, hz1]
              show Le _ (Sc N.length n0 X m most (2 * m) [(13, .int .i64 keep), (14, .int .i64 gone), (15, .int .i64 (z + 1))] N1 U5 ((dz, -z, keep) :: (keep, z, dz) :: Si).reverse) _
              rw [show ((dz, -z, keep) :: (keep, z, dz) :: Si).reverse = Si.reverse ++ [(keep, z, dz), (dz, -z, keep)] by simp]
              refine le_Sc (q := n0 + 3 + 1) (d := (fw Si.reverse).take (li * 3) ++ opl (flat [PV.agg [.int .i64 keep, .int .i64 z, .int .i64 dz], PV.agg [.int .i64 dz, .int .i64 (-z), .int .i64 keep]])) l1 l5 hXl hn0 hXs3 rfl (by omega) (fun i hi => hget_C l1 l5 hXl hn0 hi) (gR1 N1 _ _ [] l1) ?_ rfl ?_ (fun p hp => by
                  simp only [List.mem_cons, List.not_mem_nil, or_false] at hp
                  rcases hp with rfl | rfl | rfl <;> rfl)
              · rw [show (fw Si.reverse).take (li * 3) = fw Si.reverse from List.take_of_length_le (by rw [fw_len, hli]; exact Nat.le_refl _)]
                rw [fw_app]
                exact (List.take_of_length_le (by rw [List.length_append, fw_len, List.length_append]; show Si.reverse.length * 3 + 6 ≤ (Si.reverse.length + 2) * 3; omega)).symm
              · show AV.sls _ 0 (li + 2) 3 = _
                rw [lR N1 _ l1, List.length_append, hli]
                rfl
            · (try simp only [nhs] at hC6)
              refine qh (qd (qa ?_))
              refine hk_region fun K hK => runs_eval tab_ok ?_
              simp only [ev0, evA, evB, evP, fl, gp, tab, simprocAttr]
              refine fin_run ?_ (hK _ ?_) <;> clear hK <;> clear K
              · (first | exact trivial | omega | (simp only [In64] at *; omega) | (simp [In64] at *; omega) | (simp_all; done) | skip)
              refine qa ?_
              have hS2 : ((ltn m).take (i + 1)).foldl (psh gr keep) W = Si := by
                rw [hS1]; unfold psh; rw [if_neg hz0, hv, if_pos (by omega)]
              refine ⟨i + 1, List.range (n0 + 3) ++ [n0 + 3], by omega, by omega, ?_⟩
              simp only [hS2, hz1]
              show Le _ (Sc N.length n0 X m most (2 * m) [(13, .int .i64 keep), (14, .int .i64 gone), (15, .int .i64 (z + 1))] N1 U5 Si.reverse) _
              refine le_Sc (d := fw Si.reverse) l1 l5 hXl hn0 hXs3 rfl (Nat.le_refl _) (fun i hi => hget_C l1 l5 hXl hn0 hi) (gR0 _ _ _ l1) (List.take_of_length_le (by rw [fw_len]; exact Nat.le_refl _)).symm rfl (by rw [hli]; rfl) (fun p hp => by
                  simp only [List.mem_cons, List.not_mem_nil, or_false] at hp
                  rcases hp with rfl | rfl | rfl <;> rfl)
        · (try simp only [nhs] at hC4)
          have hie : i = 2 * m + 1 := by omega
          rw [hie, List.take_of_length_le (by rw [ltn_len]; exact Nat.le_refl _)] at hSi
          refine qj (qc (qc (qf (qd (qa ?_)))))
          rw [hse, hSi] at so
          have sf' : setF m j N1 U5 Si = some Z := by
            have : setF m (j + 1) N1 U1 ((c1, y, c2) :: W) = setF m j (setS m N1 U1 (c1, y, c2) W).1 (setS m N1 U1 (c1, y, c2) W).2.1 (setS m N1 U1 (c1, y, c2) W).2.2 := rfl
            rw [this, hse, hSi] at sf
            exact sf
          simp only at so
          rw [l1] at so
          obtain ⟨so1, so2, so3, so4⟩ := so
          refine ⟨(j, N1, U5, Si), List.range (n0 + 3) ++ [n0 + 3], ⟨so1, l1, so3, by simp only; omega, sf'⟩, by simp only; omega, ?_⟩
          show Le _ (Sc N.length n0 X m most (2 * m) [] N1 U5 Si.reverse) _
          refine le_Sc (d := fw Si.reverse) l1 l5 hXl hn0 hXs3 rfl (Nat.le_refl _) (fun i hi => ?_) (gR0 _ _ _ l1) (List.take_of_length_le (by rw [fw_len]; exact Nat.le_refl _)).symm rfl rfl (fun p hp => by cases hp)
          exact hget_C l1 l5 hXl hn0 hi
  · (try simp only [nhs] at hC1)
    refine qj (qc (qc (qf ?_)))
    simp only [Try.results88, PostG, endG, rvsA, rvA, mkTup, ev0, evA, evB, evP, fl, gp, tab, simprocAttr]
    have hnil : S1 = [] := by
      cases S1 with
      | nil => rfl
      | cons t r => exact absurd hC1 (by simp)
    subst hnil
    have hz : Z = (N1, U1) := by
      have : setF m j N1 U1 [] = some (N1, U1) := by cases j <;> rfl
      rw [this] at sf
      exact (Option.some.inj sf).symm
    subst hz
    refine ⟨List.range (n0 + 3), rfl, rfl, ?_⟩
    have hU1 : U1.length = N.length := by rw [w1.len]; exact l1
    refine le_stay (B := CB m most (2 * m) N1 U1 ++ X) rfl (by rw [List.length_append, CB_len, hXl, l1]; omega) (by unfold CB cbx; simp) (CB_hscX (by omega) hXs3) (fun i hi => hget_C l1 hU1 hXl hn0 hi) trivial
end
end Go.Proofs.Ytneglephfhiamaa

namespace Go.Pv
open Go.RowKit
section
variable {P : Program} {s : St}
theorem runs_callR {draw : Bool} {all : Array Oper} {rest : List Oper} {K : St → Prop} {dst : Option Tmp} {ty : TypeId} {pos : String} {aft : Array Edge} {gd : Option (Nat × Bool)} {fo : Operand} {args : Array Operand} {ts : Array TypeId} {g : FuncId} {avs : List AV} {H0 X : Heap} {r : AV}
    (hc : FnM P g avs H0 r H0) {cap : List PV} (hfo : s.ev fo = .p (.fn g cap)) (hg : guardA all s { dst := dst, op := .call { callee := .value fo, args := args, argTypes := ts }, type := ty, pos := pos, after := aft, guard := gd } = some true)
    (hH : s.H = H0 ++ X) (hargs : args.toList.map s.ev ++ cap.map .p = avs) (ha : avs.all (scA H0.length) = true) (hs : H0.all (hsc H0.length) = true) (h0 : H0.all notAnc = true) (hsc : scP H0.length r H0 H0 = true) (hd : dstOk s dst)
    (h : Runs P draw all rest K (s.put dst r)) :
    Runs P draw all ({ dst := dst, op := .call { callee := .value fo, args := args, argTypes := ts }, type := ty, pos := pos, after := aft, guard := gd } :: rest) K s := by
  obtain ⟨s', hr, hK⟩ := h
  have key : ∀ s2 : St, s2.n = s.n → Agree { dst := dst, op := .call { callee := .value fo, args := args, argTypes := ts }, type := ty, pos := pos, after := aft, guard := gd } s s2 → s2.H = s.H → DoesW P { dst := dst, op := .call { callee := .value fo, args := args, argTypes := ts }, type := ty, pos := pos, after := aft, guard := gd } s2 r s.H := by
    intro s2 hn ha2 hH2
    simp only [Agree, Op.operands, Call.operands] at ha2
    have h1 : s2.ev fo = .p (.fn g cap) := (ha2 fo (by simp)).trans hfo
    have h2 : args.toList.map s2.ev = args.toList.map s.ev := List.map_congr_left fun x hx => ha2 x (by simp; right; simpa using hx)
    intro C m a w K Q R hK
    exact call_doesEP (P := P) rfl h1 hc.toE (hH2.trans hH) (by rw [h2]; exact hargs) ha hs h0 (fun r' H' h => by rw [h.1, h.2]; exact hsc) C m a w K Q R fun v m' w' av H' ⟨H1', ⟨e1, e2⟩, e3⟩ R2 hv => by
      subst e1 e2 e3
      rw [← hH] at R2 hv
      exact hK v m' w' R2 hv
  refine ⟨s', .cons (.op s r s.H hg (dstOk_spec hd) (key s rfl (fun _ _ => rfl) rfl) fun _ => ⟨key, fun hf => ?_, fun _ => rfl⟩) hr, hK⟩
  cases hf
end
end Go.Pv
namespace Go.Proofs.Ytneglephfhiamaa
open Go.Pv
section
variable {N : List (List Int)} {U : List Int} {most : Int} {m : Nat}
theorem ofS_root {U : List Int} {v : Nat} (h : U.getD v 0 = (v : Int)) : ∀ k, ofS k U v = (v, U)
  | 0 => rfl
  | k + 1 => by rw [ofS, if_pos h]
theorem ofV_root {U : List Int} {v : Nat} (h : U.getD v 0 = (v : Int)) : ofV U v = v := by rw [ofV, ofS_root h]
theorem ofU_root {U : List Int} {v : Nat} (h : U.getD v 0 = (v : Int)) : ofU U v = U := by rw [ofU, ofS_root h]
set_option maxHeartbeats 4000000 in
set_option maxRecDepth 20000 in
theorem to_c (hm : 1 ≤ m ∧ m ≤ 6) (h : WR m N U) (hk : N.length ≤ 100000000) {v : Nat} {x : Int} (hv : v < N.length) (hr : U.getD v 0 = (v : Int)) (hx : x ≠ 0 ∧ -(m : Int) ≤ x ∧ x ≤ m) :
    FnM Try.prog 74 [.ptr 0 0, .p (.int .i64 v), .p (.int .i64 x)] (CB m most (2 * m) N U) (.p (.int .i64 (toV N U v x))) (CB m most (2 * m) N (toU N U v x)) := by
  have hcc := cof_w (most := most) (n := m) (w := 2 * m) h hk hv
  rw [ofV_root hr, ofU_root hr] at hcc
  obtain ⟨rp, hrp⟩ : ∃ r, N.getD v [] = r := ⟨_, rfl⟩
  have hrow := (h.at hv).1
  obtain ⟨cy, hcy⟩ : ∃ c, (cI x).toNat = c := ⟨_, rfl⟩
  obtain ⟨y1, y2⟩ := cI_lt (n := m) hx.1 hx.2.1 hx.2.2
  have hcyI : cI x = (cy : Int) := by omega
  have hrgd : (N.getD v []).getD cy 0 = rg (N.getD v []) x := by rw [← hcy]; exact rg_get (by omega)
  have gM : ∀ Y : Heap, hget (N.map rwB ++ Y) v = rwB (N.getD v []) := fun Y => hget_N (by omega)
  unfold toV toU
  have hug := h.rg (a := v) (x := x) hv
  rw [hrp] at hrow hrgd gM hug ⊢
  obtain ⟨u, hu⟩ : ∃ u, rg rp x = u := ⟨_, rfl⟩
  rw [hu] at hrgd hug ⊢
  have hCBk : ∀ (U2 : List Int) (Y : Heap), U2.length = N.length → CB m most (2 * m) N U2 ++ Y = .own [.p (.int .i64 m), .sl 1 0 N.length, .sl 2 0 N.length, .p (.int .i64 most)] :: .own (rsl (2 * m) N.length) :: .own (ol U2) :: (N.map rwB ++ Y) := fun U2 Y h => by
    unfold CB cbx; rw [h]; rfl
  unfold CB cbx
  rw [h.len]
  refine fnm_of tab_ok Try.func74 rfl (by kernel_rfl) (by rw [Try.ntmps74]; exact Nat.le_add_left 3 _) ?_; rw [Try.ntmps74]; simp only [ancs, entA, List.length_cons, List.length_nil, List.cons_append, List.nil_append, Nat.reduceAdd, Nat.zero_add]
  have hXl : (.anc 0 0 :: .anc 1 1 :: .anc 2 2 :: ancs 3 (N.map rwB).length : Heap).length = N.length + 3 := by simp [ancs_length]
  have hXs : ∀ L, N.length + 3 ≤ L → ∀ b ∈ (.anc 0 0 :: .anc 1 1 :: .anc 2 2 :: ancs 3 (N.map rwB).length : Heap), hsc L b = true := fun L hL b hb => by
    have : (.anc 0 0 :: .anc 1 1 :: .anc 2 2 :: ancs 3 (N.map rwB).length : Heap) = ancs 0 (N.length + 3) := by rw [N_len]; rfl
    rw [this] at hb
    exact ancs_hsc (by omega) b hb
  generalize (.anc 0 0 :: .anc 1 1 :: .anc 2 2 :: ancs 3 (N.map rwB).length : Heap) = X at hXl hXs ⊢
  have hXs3 := hXs (N.length + (N.length + 3) + 3) (by omega)
  refine qm ?_
  refine hk_region fun K hK => runs_eval tab_ok ?_
  simp only [ev0, evA, evB, evP, fl, gp, tab, simprocAttr]
  refine fin_run trivial (hK _ ?_) <;> clear hK <;> clear K
  refine qa (qm ?_)
  refine hk_draw mixed (by kernel_rfl) fun K hK => runs_eval tab_ok ?_
  simp only [ev0, evA, evB, evP, fl, gp, tab, simprocAttr]
  refine fin_stop ?_ (runs_callR (X := X) hcc rfl rfl (hCBk _ _ h.len).symm rfl (by rw [CB_len]; simp [scA, sc1]) CB_all CB_na (CB_scP rfl) (by simp only [dstOk, Nat.reduceLT]) (runs_eval tab_ok ?_))
  · exact trivial
  simp only [ev0, evA, evB, evP, fl, gp, tab, simprocAttr, rsl_get hv, gM, rwB, Int.toNat_natCast, rsl_len, Int.ofNat_eq_natCast, hcyI]
  refine fin_stop ?_ (runs_call (col_c (by omega)) rfl rfl rfl (by simp only [dstOk, Nat.reduceLT]) (by repeat (first | exact trivial | constructor)) (runs_eval tab_ok ?_))
  · exact ⟨⟨by omega, by omega⟩, hv⟩
  simp only [ev0, evA, evB, evP, fl, gp, tab, simprocAttr, rsl_get hv, gM, rwB, Int.toNat_natCast, rsl_len, Int.ofNat_eq_natCast, hcyI, ol_get (show cy < rp.length by omega), hrgd]
  refine fin_run ?_ (hK _ ?_) <;> clear hK <;> clear K
  · exact ⟨⟨by omega, by omega⟩, by omega⟩
  refine qa (qm (qm ?_))
  refine hk_region fun K hK => runs_eval tab_ok ?_
  simp only [ev0, evA, evB, evP, fl, gp, tab, simprocAttr]
  refine fin_run trivial (hK _ ?_) <;> clear hK <;> clear K
  refine qa ?_
  refine hk_cond rfl (fun hC1 => ?_) (fun hC1 => ?_)
  · (try simp only [nhs] at hC1)
    have hf : u < 0 := by simpa using hC1
    refine qm ?_
    refine hk_region fun K hK => runs_eval tab_ok ?_
    simp only [ev0, evA, evB, evP, fl, gp, tab, simprocAttr]
    refine fin_run trivial (hK _ ?_) <;> clear hK <;> clear K
    refine qa (qk (qb ?_))
    simp only [Try.results74, PostG, endG, rvsA, rvA, mkTup, ev0, evA, evB, evP, fl, gp, tab, simprocAttr]
    simp only [if_pos hf]
    exact ⟨List.range (N.length + (N.length + 3) + 3), rfl, rfl, le_stay (B := CB m most (2 * m) N U ++ X) rfl (by rw [List.length_append, CB_len, hXl]; omega) (by rw [hCBk _ _ h.len, h.len]) (CB_hscX (by omega) hXs3) (fun i hi => by rw [hCBk _ _ h.len]) trivial⟩
  · (try simp only [nhs] at hC1)
    have hu0 : ¬ u < 0 := by simpa using hC1
    obtain ⟨d, rfl⟩ := Int.eq_ofNat_of_zero_le (show 0 ≤ u by omega)
    have hdl : d < N.length := by
      have := hug (by omega)
      omega
    have hlU : (ofU U d).length = N.length := by rw [ofU_len]; exact h.len
    refine qh (qa (qm ?_))
    refine hk_region fun K hK => runs_eval tab_ok ?_
    simp only [ev0, evA, evB, evP, fl, gp, tab, simprocAttr]
    refine fin_stop ?_ (runs_cof (U := U) (X := X) h (by omega) (v := d) (by omega) rfl rfl (hCBk _ _ h.len).symm rfl (by simp only [dstOk, Nat.reduceLT]) (runs_eval tab_ok ?_))
    · exact trivial
    simp only [hCBk _ _ hlU, ev0, evA, evB, evP, fl, gp, tab, simprocAttr]
    refine fin_run trivial (hK _ ?_) <;> clear hK <;> clear K
    refine qa (qk ?_)
    simp only [Try.results74, PostG, endG, rvsA, rvA, mkTup, ev0, evA, evB, evP, fl, gp, tab, simprocAttr]
    simp only [if_neg hu0]
    exact ⟨List.range (N.length + (N.length + 3) + 3), rfl, rfl, le_stay (B := CB m most (2 * m) N (ofU U d) ++ X) rfl (by rw [List.length_append, CB_len, hXl]; omega) (by rw [hCBk _ _ hlU, hlU]) (CB_hscX (by omega) hXs3) (fun i hi => by rw [hCBk _ _ hlU]) trivial⟩
end
end Go.Proofs.Ytneglephfhiamaa

namespace Go.Pv.Fw
open Go.Pv Go.RowKit
structure FW where
  W : Oper → Bool
  T : Oper → Bool
  wt : ∀ {o : Oper}, W o = true → T o = true
structure Loc1 (F : FW) (P : Program) (o : Oper) (s : St) (av : AV) (H' : Heap) : Prop where
  here : ∀ s2 : St, s2.n = s.n → Agree o s s2 → s2.H = s.H → DoesW P o s2 av H'
  free : F.T o = false → H' = s.H ∧ ∀ s2 : St, s2.n = s.n → Agree o s s2 → DoesW P o s2 av s2.H
  calm : F.W o = false → H' = s.H
inductive Step1 (F : FW) (P : Program) (draw : Bool) (all : Array Oper) (o : Oper) : St → St → Prop
  | skip (s : St) (hg : guardA all s o = some false) (hd : ∀ t, o.dst = some t → t < s.n) : Step1 F P draw all o s (s.put o.dst (.p (.tup [])))
  | op (s : St) (av : AV) (H' : Heap) (hg : guardA all s o = some true) (hd : ∀ t, o.dst = some t → t < s.n) (h : DoesW P o s av H') (hl : draw = true → Loc1 F P o s av H') : Step1 F P draw all o s ({ s with H := H' }.put o.dst av)
inductive Run1 (F : FW) (P : Program) (draw : Bool) (all : Array Oper) : List Oper → St → St → Prop
  | nil (s : St) : Run1 F P draw all [] s s
  | cons {o : Oper} {r : List Oper} {s s1 s2 : St} (h : Step1 F P draw all o s s1) (hr : Run1 F P draw all r s1 s2) : Run1 F P draw all (o :: r) s s2
def apartB (F : FW) (ops : Array Oper) (x y : Oper) : Bool := x.apart ops y && !(F.W x && F.T y) && !(F.T x && F.W y)
def drawOK (F : FW) (ops : Array Oper) : Bool :=
  (List.range ops.size).all fun j =>
    ((opAt ops j).after.toList.all fun e => !Region.binds .any e || e.on < j) &&
    (List.range j).all fun i => apartB F ops (opAt ops i) (opAt ops j) || ((anc ops).getD j 0).testBit i
section
variable {F : FW} {P : Program} {ops : Array Oper}
def sD (F : FW) (ops : Array Oper) (out : Nat → Out) (s : St) (D : Nat → Bool) : Nat → St
  | 0 => s
  | k + 1 => if D k then ({ sD F ops out s D k with H := if F.W (opAt ops k) then (out k).H else (sD F ops out s D k).H } : St).put (opAt ops k).dst (out k).av else sD F ops out s D k
theorem sD_n (out : Nat → Out) (s : St) (D : Nat → Bool) : ∀ k, (sD F ops out s D k).n = s.n
  | 0 => rfl
  | k + 1 => by
    simp only [sD]
    split
    · rw [St.put_n]; exact sD_n out s D k
    · exact sD_n out s D k
theorem sD_get (out : Nat → Out) (s : St) (D : Nat → Bool) (k t : Nat) : (sD F ops out s D (k + 1)).get t = if D k = true ∧ (opAt ops k).dst = some t then (out k).av else (sD F ops out s D k).get t := by
  simp only [sD]
  by_cases h : D k = true
  · rw [if_pos h, get_put]
    by_cases hd : (opAt ops k).dst = some t
    · have hr : D k = true ∧ (opAt ops k).dst = some t := ⟨h, hd⟩
      rw [if_pos hd, if_pos hr]
    · have hr : ¬ (D k = true ∧ (opAt ops k).dst = some t) := fun hh => hd hh.2
      rw [if_neg hd, if_neg hr]; rfl
  · have hr : ¬ (D k = true ∧ (opAt ops k).dst = some t) := fun hh => h hh.1
    rw [if_neg h, if_neg hr]
theorem sD_H (out : Nat → Out) (s : St) (D : Nat → Bool) (k : Nat) : (sD F ops out s D (k + 1)).H = if D k = true ∧ F.W (opAt ops k) = true then (out k).H else (sD F ops out s D k).H := by
  simp only [sD]
  by_cases h : D k = true
  · rw [if_pos h, St.put_H]
    by_cases hd : F.W (opAt ops k) = true
    · have hr : D k = true ∧ F.W (opAt ops k) = true := ⟨h, hd⟩
      rw [if_pos hr]; simp only [hd, if_true]
    · have hr : ¬ (D k = true ∧ F.W (opAt ops k) = true) := fun hh => hd hh.2
      rw [if_neg hr]; simp only [hd, Bool.false_eq_true, if_false]
  · have hr : ¬ (D k = true ∧ F.W (opAt ops k) = true) := fun hh => h hh.1
    rw [if_neg h, if_neg hr]
theorem sD_get_stay (out : Nat → Out) (s : St) (D : Nat → Bool) (t : Nat) : ∀ k n, k ≤ n → (∀ i, k ≤ i → i < n → D i = true → (opAt ops i).dst ≠ some t) → (sD F ops out s D n).get t = (sD F ops out s D k).get t := by
  intro k n hkn h
  induction n with
  | zero => obtain rfl : k = 0 := by omega
            rfl
  | succ n ih =>
    by_cases hk : k = n + 1
    · rw [hk]
    · rw [sD_get, if_neg (fun hh => h n (by omega) (by omega) hh.1 hh.2)]
      exact ih (by omega) fun i h1 h2 => h i h1 (by omega)
theorem sD_H_stay (out : Nat → Out) (s : St) (D : Nat → Bool) : ∀ k n, k ≤ n → (∀ i, k ≤ i → i < n → D i = true → F.W (opAt ops i) = false) → (sD F ops out s D n).H = (sD F ops out s D k).H := by
  intro k n hkn h
  induction n with
  | zero => obtain rfl : k = 0 := by omega
            rfl
  | succ n ih =>
    by_cases hk : k = n + 1
    · rw [hk]
    · rw [sD_H, if_neg (fun hh => by have := h n (by omega) (by omega) hh.1; rw [this] at hh; simp at hh)]
      exact ih (by omega) fun i h1 h2 => h i h1 (by omega)
theorem sD_get_same (out : Nat → Out) (s : St) (D D' : Nat → Bool) (t : Nat) : ∀ k, (∀ i, i < k → (opAt ops i).dst = some t → D i = D' i) → (sD F ops out s D k).get t = (sD F ops out s D' k).get t := by
  intro k h
  induction k with
  | zero => rfl
  | succ k ih =>
    rw [sD_get, sD_get, ih fun i hi => h i (by omega)]
    by_cases hd : (opAt ops k).dst = some t
    · rw [h k (by omega) hd]
    · rw [if_neg (fun hh => hd hh.2), if_neg (fun hh => hd hh.2)]
theorem sD_H_same (out : Nat → Out) (s : St) (D D' : Nat → Bool) : ∀ k, (∀ i, i < k → F.W (opAt ops i) = true → D i = D' i) → (sD F ops out s D k).H = (sD F ops out s D' k).H := by
  intro k h
  induction k with
  | zero => rfl
  | succ k ih =>
    rw [sD_H, sD_H, ih fun i hi => h i (by omega)]
    by_cases hd : F.W (opAt ops k) = true
    · rw [h k (by omega) hd]
    · rw [if_neg (fun hh => hd hh.2), if_neg (fun hh => hd hh.2)]
structure Fact (F : FW) (P : Program) (ops : Array Oper) (out : Nat → Out) (s : St) (j : Nat) (o : Oper) : Prop where
  dst : ∀ t, o.dst = some t → t < s.n
  how : (guardA ops (sD F ops out s (fun _ => true) j) o = some false ∧ (out j).av = .p (.tup []) ∧ F.W o = false) ∨
    (guardA ops (sD F ops out s (fun _ => true) j) o = some true ∧ Loc1 F P o (sD F ops out s (fun _ => true) j) (out j).av (out j).H)
theorem Run1.facts : ∀ (l : List Oper) (k : Nat) (pre : Nat → Out) (s s1 s' : St), (∀ i, l[i]? = ops[k + i]?) → k + l.length = ops.size → (∀ t, s1.get t = (sD F ops pre s (fun _ => true) k).get t) → s1.H = (sD F ops pre s (fun _ => true) k).H → s1.n = s.n →
    (∀ o ∈ l, o.guard ≠ none → F.W o = false) →
    Run1 F P true ops l s1 s' → ∃ out : Nat → Out, (∀ i, i < k → out i = pre i) ∧ (∀ i o, k ≤ i → ops[i]? = some o → Fact F P ops out s i o) ∧ (∀ t, s'.get t = (sD F ops out s (fun _ => true) ops.size).get t) ∧ s'.H = (sD F ops out s (fun _ => true) ops.size).H ∧ s'.n = s.n
  | [], k, pre, s, s1, s', hl, hk, hg, hH, hn, _, hr => by
    cases hr
    simp at hk
    subst hk
    refine ⟨pre, fun _ _ => rfl, fun i o hi ho => ?_, hg, hH, hn⟩
    have := (Array.getElem?_eq_some_iff.1 ho).1
    omega
  | o :: r, k, pre, s, s1, s', hl, hk, hg, hH, hn, hgw, hr => by
    have ho : ops[k]? = some o := by have := hl 0; simpa using this.symm
    have hod : opAt ops k = o := opAt_of ho
    have sDpre : ∀ (x : Out) (j : Nat), j ≤ k → sD F ops (fun i => if i = k then x else pre i) s (fun _ => true) j = sD F ops pre s (fun _ => true) j := by
      intro x j hj
      induction j with
      | zero => rfl
      | succ j ih =>
        simp only [sD]
        rw [ih (by omega), if_neg (by omega : ¬ j = k)]
    have hgs : ∀ b, guardA ops s1 o = some b → guardA ops (sD F ops pre s (fun _ => true) k) o = some b := by
      intro b h
      unfold guardA at h ⊢
      simp only [hg] at h
      exact h
    cases hr with
    | cons h hr =>
      have next : ∀ (x : Out) (sn : St), (∀ t, sn.get t = if o.dst = some t then x.av else s1.get t) → (sn.H = if F.W o = true then x.H else s1.H) → sn.n = s1.n → Run1 F P true ops r sn s' →
          Fact F P ops (fun i => if i = k then x else pre i) s k o →
          ∃ out : Nat → Out, (∀ i, i < k → out i = pre i) ∧ (∀ i o, k ≤ i → ops[i]? = some o → Fact F P ops out s i o) ∧ (∀ t, s'.get t = (sD F ops out s (fun _ => true) ops.size).get t) ∧ s'.H = (sD F ops out s (fun _ => true) ops.size).H ∧ s'.n = s.n := by
        intro x sn h1 h2 h3 hrn hf
        obtain ⟨out, g1, g2, g3⟩ := Run1.facts r (k + 1) (fun i => if i = k then x else pre i) s sn s' (fun i => by have := hl (i + 1); simp only [List.getElem?_cons_succ] at this; rw [this]; congr 1; omega) (by simp at hk; omega)
          (fun t => by rw [h1, sD_get, hod, sDpre x k (Nat.le_refl _), hg]; simp) (by rw [h2, sD_H, hod, sDpre x k (Nat.le_refl _), hH]; simp) (by rw [h3, hn]) (fun o ho => hgw o (by simp [ho])) hrn
        refine ⟨out, fun i hi => ?_, fun i o' hi ho' => ?_, g3⟩
        · rw [g1 i (by omega), if_neg (by omega)]
        · by_cases hik : i = k
          · subst hik
            rw [ho] at ho'; cases ho'
            have e1 : ∀ j, j ≤ i → sD F ops out s (fun _ => true) j = sD F ops (fun i' => if i' = i then x else pre i') s (fun _ => true) j := by
              intro j hj
              induction j with
              | zero => rfl
              | succ j ih => simp only [sD]; rw [ih (by omega), g1 j (by omega)]
            have e2 : out i = (fun i' => if i' = i then x else pre i') i := g1 i (by omega)
            refine ⟨hf.dst, ?_⟩
            have := hf.how
            rw [e1 i (Nat.le_refl _), e2]
            exact this
          · exact g2 i o' (by omega) ho'
      cases h with
      | skip hgd hd =>
        have hgn : o.guard ≠ none := by
          intro e
          unfold guardA at hgd
          rw [e] at hgd
          simp at hgd
        have hw := hgw o (by simp) hgn
        refine next ⟨.p (.tup []), s1.H⟩ _ (fun t => get_put _ _ _ _) (by rw [St.put_H]; simp) (St.put_n _ _ _) hr ⟨fun t ht => by rw [← hn]; exact hd t ht, .inl ⟨?_, by simp, hw⟩⟩
        rw [sDpre _ k (Nat.le_refl _)]
        exact hgs false hgd
      | op av H' hgd hd hdo hloc =>
        have hloc := hloc rfl
        have hag : ∀ (s2 : St), (∀ t, s2.get t = (sD F ops pre s (fun _ => true) k).get t) → ∀ x, s2.ev x = s1.ev x := by
          intro s2 h2 x
          cases x <;> simp only [St.ev]
          rw [h2, hg]
        refine next ⟨av, H'⟩ (({ s1 with H := H' } : St).put o.dst av) (fun t => by rw [get_put]; rfl) (by
            rw [St.put_H]
            by_cases hw : F.W o = true
            · rw [if_pos hw]
            · rw [if_neg hw]; exact hloc.calm (by simpa using hw)) (St.put_n _ _ _) hr ⟨fun t ht => by rw [← hn]; exact hd t ht, .inr ⟨?_, ?_⟩⟩
        · rw [sDpre _ k (Nat.le_refl _)]; exact hgs true hgd
        · rw [sDpre _ k (Nat.le_refl _)]
          simp only [if_true]
          have hev : ∀ x, (sD F ops pre s (fun _ => true) k).ev x = s1.ev x := hag _ fun _ => rfl
          have hnn : (sD F ops pre s (fun _ => true) k).n = s1.n := by rw [sD_n, hn]
          refine ⟨fun s2 h1 h2 h3 => hloc.here s2 (h1.trans hnn) (fun x hx => (h2 x hx).trans (hev x)) (h3.trans hH.symm), fun hf => ?_, fun hw => by rw [← hH]; exact hloc.calm hw⟩
          obtain ⟨e1, e2⟩ := hloc.free hf
          exact ⟨by rw [← hH]; exact e1, fun s2 h1 h2 => e2 s2 (h1.trans hnn) (fun x hx => (h2 x hx).trans (hev x))⟩
theorem drawOK_spec (h : drawOK F ops = true) : (∀ j o, ops[j]? = some o → ∀ e ∈ o.after.toList, Region.binds .any e = true → e.on < j) ∧
    ∀ i j oi oj, i < j → ops[i]? = some oi → ops[j]? = some oj → apartB F ops oi oj = false → ((anc ops).getD j 0).testBit i = true := by
  unfold drawOK at h
  rw [List.all_eq_true] at h
  constructor
  · intro j o ho e he hb
    have hj := (Array.getElem?_eq_some_iff.1 ho).1
    have := h j (by simpa using hj)
    rw [Bool.and_eq_true] at this
    have h1 := (List.all_eq_true.1 this.1) e (by rw [opAt_of ho]; exact he)
    rw [hb] at h1
    simpa using h1
  · intro i j oi oj hij hi hj ha
    have hj' := (Array.getElem?_eq_some_iff.1 hj).1
    have := h j (by simpa using hj')
    rw [Bool.and_eq_true] at this
    have h1 := (List.all_eq_true.1 this.2) i (by simpa using hij)
    rw [opAt_of hi, opAt_of hj, ha, Bool.false_or] at h1
    exact h1
theorem draw_sound {Q : Exit → Act → World → Prop} {C : Ctx} {ds : List Deferred} {s s' : St} (hok : drawOK F ops = true) (hgw : ∀ o ∈ ops.toList, o.guard ≠ none → F.W o = false) (hrun : Run1 F P true ops ops.toList s s') {m : Map} {a : Act} {w : World} (R : Rel C m s a.tmps w) (hd : a.defers = ds)
    (hQ : ∀ m' (a' : Act) w', Rel C m' s' a'.tmps w' → a'.defers = ds → Q .normal a' w') : anyR P .any ops Q ops.size (Array.replicate ops.size false) a w := by
  obtain ⟨hedge, hconf⟩ := drawOK_spec hok
  obtain ⟨out, _, hfact, hget', hH', hn'⟩ := Run1.facts (ops := ops) ops.toList 0 (fun _ => ⟨.dead, []⟩) s s s' (fun i => by simp) (by simp) (fun _ => rfl) rfl rfl hgw hrun
  have hfact : ∀ i o, ops[i]? = some o → Fact F P ops out s i o := fun i o => hfact i o (Nat.zero_le _)
  have key : ∀ (fuel : Nat) (listed : Array Bool) (m : Map) (a : Act) (w : World), listed.size = ops.size → (List.range ops.size).countP (fun i => !listed.getD i true) = fuel →
      (∀ j o, listed.getD j false = true → ops[j]? = some o → ∀ e ∈ o.after.toList, Region.binds .any e = true → listed.getD e.on false = true) →
      Rel C m (sD F ops out s (fun i => listed.getD i false) ops.size) a.tmps w → a.defers = ds → anyR P .any ops Q fuel listed a w := by
    intro fuel
    induction fuel with
    | zero =>
      intro listed m a w hsz hcnt hcl R hd
      have hall : ∀ i, i < ops.size → listed.getD i true = true := by
        intro i hi
        have := List.countP_eq_zero.1 hcnt i (by simpa using hi)
        simpa using this
      refine ⟨?_, hQ m a w (R.congr (fun t => ?_) ?_ ?_) hd⟩
      · unfold Region.ready
        rw [List.filter_eq_nil_iff]
        intro i hi
        have := hall i (by simpa using hi)
        simp [this]
      · rw [hget']
        refine (sD_get_same out s _ _ t _ fun i hi _ => ?_).symm
        have := hall i hi
        simp [Array.getD_eq_getD_getElem?, Array.getElem?_eq_getElem (show i < listed.size by omega)] at this ⊢
        exact this
      · rw [hH']
        refine (sD_H_same out s _ _ _ fun i hi _ => ?_).symm
        have := hall i hi
        simp [Array.getD_eq_getD_getElem?, Array.getElem?_eq_getElem (show i < listed.size by omega)] at this ⊢
        exact this
      · rw [sD_n, hn']
    | succ fuel ih =>
      intro listed m a w hsz hcnt hcl R hd
      refine ⟨fun hnil => ?_, fun j hj => ?_⟩
      · 
        exfalso
        have hex : ∃ i, i < ops.size ∧ listed.getD i true = false := by
          have : 0 < (List.range ops.size).countP (fun i => !listed.getD i true) := by omega
          obtain ⟨i, hi, h⟩ := List.countP_pos_iff.1 this
          exact ⟨i, by simpa using hi, by simpa using h⟩
        have hmin : ∃ i, i < ops.size ∧ listed.getD i true = false ∧ ∀ k, k < i → listed.getD k true = true := by
          obtain ⟨i, hi, h⟩ := hex
          induction i using Nat.strongRecOn with
          | _ i ihh =>
            by_cases hall : ∀ k, k < i → listed.getD k true = true
            · exact ⟨i, hi, h, hall⟩
            · simp only [Classical.not_forall] at hall
              obtain ⟨k, hk, hkn⟩ := hall
              exact ihh k hk (by omega) (by simpa using hkn)
        obtain ⟨i, hi, hli, hbelow⟩ := hmin
        have hmem : i ∈ Region.ready .any ops listed := by
          unfold Region.ready
          rw [List.mem_filter]
          refine ⟨by simpa using hi, ?_⟩
          rw [hli, Array.getElem?_eq_getElem hi]
          simp only [Bool.not_false, Bool.true_and, Option.map_some, Option.getD_some]
          rw [Array.all_eq_true_iff_forall_mem]
          intro e he
          by_cases hb : Region.binds .any e = true
          · have hlt := hedge i ops[i] (Array.getElem?_eq_getElem hi) e (by simpa using he) hb
            have := hbelow e.on hlt
            have hlt' : e.on < listed.size := by omega
            simp [Array.getD_eq_getD_getElem?, Array.getElem?_eq_getElem hlt'] at this ⊢
            simp [this]
          · simp [hb]
        rw [hnil] at hmem
        simp at hmem
      · 
        unfold Region.ready at hj
        rw [List.mem_filter] at hj
        obtain ⟨hjlt, hj⟩ := hj
        have hjlt : j < ops.size := by simpa using hjlt
        have hoj : ops[j]? = some ops[j] := Array.getElem?_eq_getElem hjlt
        generalize ops[j] = o at hoj
        rw [hoj] at hj
        simp only [Option.map_some, Option.getD_some, Bool.and_eq_true, Bool.not_eq_eq_eq_not, Bool.not_true] at hj
        obtain ⟨hnl, hal⟩ := hj
        have hjls : j < listed.size := by omega
        have hnl' : listed.getD j false = false := by
          simp [Array.getD_eq_getD_getElem?, Array.getElem?_eq_getElem hjls] at hnl ⊢
          exact hnl
        have hpre : ∀ e ∈ o.after.toList, Region.binds .any e = true → listed.getD e.on false = true := by
          intro e he hb
          have := (Array.all_eq_true_iff_forall_mem.1 hal) e (by simpa using he)
          rw [hb] at this
          simpa using this
        have hanc : ∀ i, ((anc ops).getD j 0).testBit i = true → listed.getD i false = true :=
          anc_in (D := fun i => listed.getD i false = true) hcl j j o (Nat.le_refl _) hoj hpre
        have hanc' : ∀ i, listed.getD i false = true → ∀ oi, ops[i]? = some oi → ∀ k, ((anc ops).getD i 0).testBit k = true → listed.getD k false = true :=
          fun i hi oi hoi => anc_in (D := fun i => listed.getD i false = true) hcl i i oi (Nat.le_refl _) hoi (hcl i oi hi hoi)
        have hod : opAt ops j = o := opAt_of hoj
        have low : ∀ i, i < j → apartB F ops (opAt ops i) o = false → listed.getD i false = true := by
          intro i hi ha
          have hoi : ops[i]? = some ops[i] := Array.getElem?_eq_getElem (by omega)
          refine hanc i (hconf i j ops[i] o hi hoi hoj ?_)
          rwa [opAt_of hoi] at ha
        have high : ∀ i, j < i → i < ops.size → listed.getD i false = true → apartB F ops o (opAt ops i) = true := by
          intro i hi hlt hli
          have hoi : ops[i]? = some ops[i] := Array.getElem?_eq_getElem hlt
          have e : opAt ops i = ops[i] := opAt_of hoi
          rw [e]
          by_cases ha : apartB F ops o ops[i] = true
          · exact ha
          · have := hanc' i hli ops[i] hoi j (hconf j i o ops[i] hi hoj hoi (by simpa using ha))
            rw [this] at hnl'; cases hnl'
        have agree : ∀ t, t ∈ o.looksAt ops → (sD F ops out s (fun i => listed.getD i false) ops.size).get t = (sD F ops out s (fun _ => true) j).get t := by
          intro t ht
          rw [sD_get_stay out s _ t j ops.size (by omega) (fun i h1 h2 h3 h4 => ?_)]
          · refine sD_get_same out s _ _ t j fun i hi hdi => ?_
            rw [low i hi ?_]
            rw [Bool.eq_false_iff]
            intro hap
            unfold apartB at hap
            rw [Bool.and_eq_true, Bool.and_eq_true] at hap
            exact (Oper.apart_spec hap.1.1).1 t hdi ht
          · by_cases hij : i = j
            · subst hij; rw [hnl'] at h3; cases h3
            · have hap := high i (by omega) h2 h3
              unfold apartB at hap
              rw [Bool.and_eq_true, Bool.and_eq_true] at hap
              exact (Oper.apart_spec hap.1.1).2.2 t h4 ht
        have agreeH : F.T o = true → (sD F ops out s (fun i => listed.getD i false) ops.size).H = (sD F ops out s (fun _ => true) j).H := by
          intro hT
          rw [sD_H_stay out s _ j ops.size (by omega) (fun i h1 h2 h3 => ?_)]
          · refine sD_H_same out s _ _ j fun i hi hwi => ?_
            rw [low i hi ?_]
            rw [Bool.eq_false_iff]
            intro hap
            unfold apartB at hap
            simp [hwi, hT] at hap
          · by_cases hij : i = j
            · subst hij; rw [hnl'] at h3; cases h3
            · have hap := high i (by omega) h2 h3
              unfold apartB at hap
              simp only [hT, Bool.true_and, Bool.and_eq_true, Bool.not_eq_eq_eq_not, Bool.not_true] at hap
              exact hap.2
        have hlist : ∀ i, (listed.setIfInBounds j true).getD i false = if i = j then true else listed.getD i false := by
          intro i
          simp only [Array.getD_eq_getD_getElem?]
          by_cases hij : i = j
          · subst hij; rw [Array.getElem?_setIfInBounds_self_of_lt hjls, if_pos rfl]; rfl
          · rw [Array.getElem?_setIfInBounds_ne (Ne.symm hij), if_neg hij]
        have insertGet : ∀ t, (sD F ops out s (fun i => (listed.setIfInBounds j true).getD i false) ops.size).get t = if o.dst = some t then (out j).av else (sD F ops out s (fun i => listed.getD i false) ops.size).get t := by
          intro t
          have base : ∀ k, k ≤ j → (sD F ops out s (fun i => (listed.setIfInBounds j true).getD i false) k).get t = (sD F ops out s (fun i => listed.getD i false) k).get t := fun k hk =>
            sD_get_same out s _ _ t k fun i hi _ => by rw [hlist, if_neg (by omega)]
          have step : ∀ n, j + 1 ≤ n → n ≤ ops.size → (sD F ops out s (fun i => (listed.setIfInBounds j true).getD i false) n).get t = if o.dst = some t then (out j).av else (sD F ops out s (fun i => listed.getD i false) n).get t := by
            intro n hn hns
            induction n with
            | zero => omega
            | succ n ihn =>
              by_cases hnj : n = j
              · subst hnj
                rw [sD_get, sD_get, hod, base n (Nat.le_refl _), hlist, if_pos rfl, hnl']
                by_cases hdt : o.dst = some t
                · simp [hdt]
                · simp [hdt]
              · rw [sD_get, sD_get, ihn (by omega) (by omega), hlist, if_neg hnj]
                by_cases hln : listed.getD n false = true ∧ (opAt ops n).dst = some t
                · rw [if_pos hln, if_pos hln]
                  have hap := high n (by omega) (by omega) hln.1
                  unfold apartB at hap
                  rw [Bool.and_eq_true, Bool.and_eq_true] at hap
                  by_cases hdt : o.dst = some t
                  · exact absurd hln.2 ((Oper.apart_spec hap.1.1).2.1 t hdt)
                  · rw [if_neg hdt]
                · rw [if_neg hln, if_neg hln]
          exact step ops.size (by omega) (Nat.le_refl _)
        have insertH : (sD F ops out s (fun i => (listed.setIfInBounds j true).getD i false) ops.size).H = if F.W o = true then (out j).H else (sD F ops out s (fun i => listed.getD i false) ops.size).H := by
          have base : ∀ k, k ≤ j → (sD F ops out s (fun i => (listed.setIfInBounds j true).getD i false) k).H = (sD F ops out s (fun i => listed.getD i false) k).H := fun k hk =>
            sD_H_same out s _ _ k fun i hi _ => by rw [hlist, if_neg (by omega)]
          have step : ∀ n, j + 1 ≤ n → n ≤ ops.size → (sD F ops out s (fun i => (listed.setIfInBounds j true).getD i false) n).H = if F.W o = true then (out j).H else (sD F ops out s (fun i => listed.getD i false) n).H := by
            intro n hn hns
            induction n with
            | zero => omega
            | succ n ihn =>
              by_cases hnj : n = j
              · subst hnj
                rw [sD_H, sD_H, hod, base n (Nat.le_refl _), hlist, if_pos rfl, hnl']
                by_cases hdt : F.W o = true
                · simp [hdt]
                · simp [hdt]
              · rw [sD_H, sD_H, ihn (by omega) (by omega), hlist, if_neg hnj]
                by_cases hln : listed.getD n false = true ∧ F.W (opAt ops n) = true
                · rw [if_pos hln, if_pos hln]
                  have hap := high n (by omega) (by omega) hln.1
                  unfold apartB at hap
                  by_cases hdt : F.W o = true
                  · simp [hdt, F.wt hln.2] at hap
                  · rw [if_neg hdt]
                · rw [if_neg hln, if_neg hln]
          exact step ops.size (by omega) (Nat.le_refl _)
        have hcnt' : (List.range ops.size).countP (fun i => !(listed.setIfInBounds j true).getD i true) = fuel := by
          have hsplit : ∀ (l : List Nat), l.Nodup → j ∈ l → l.countP (fun i => !listed.getD i true) = l.countP (fun i => !(listed.setIfInBounds j true).getD i true) + 1 := by
            intro l
            induction l with
            | nil => intro _ h; simp at h
            | cons x r ihl =>
              intro hnd hmem
              have hx : ∀ i, i ≠ j → (listed.setIfInBounds j true).getD i true = listed.getD i true := by
                intro i hi
                simp only [Array.getD_eq_getD_getElem?]
                rw [Array.getElem?_setIfInBounds_ne (Ne.symm hi)]
              rw [List.nodup_cons] at hnd
              by_cases hxj : x = j
              · subst hxj
                have e1 : (listed.setIfInBounds x true).getD x true = true := by
                  simp only [Array.getD_eq_getD_getElem?]
                  rw [Array.getElem?_setIfInBounds_self_of_lt hjls]; rfl
                rw [List.countP_cons, List.countP_cons, hnl, e1]
                have : r.countP (fun i => !listed.getD i true) = r.countP (fun i => !(listed.setIfInBounds x true).getD i true) := by
                  apply List.countP_congr
                  intro i hi
                  rw [hx i (fun e => hnd.1 (e ▸ hi))]
                simp only [this, Bool.not_false, Bool.not_true, if_true, Bool.false_eq_true, if_false, Nat.add_zero]
              · rw [List.countP_cons, List.countP_cons, hx x hxj, ihl hnd.2 (by rcases List.mem_cons.1 hmem with h | h; exact absurd h.symm hxj; exact h)]
                omega
          have := hsplit (List.range ops.size) List.nodup_range (by simpa using hjlt)
          omega
        have hcl' : ∀ i oi, (listed.setIfInBounds j true).getD i false = true → ops[i]? = some oi → ∀ e ∈ oi.after.toList, Region.binds .any e = true → (listed.setIfInBounds j true).getD e.on false = true := by
          intro i oi hi hoi e he hb
          rw [hlist] at hi ⊢
          by_cases hij : i = j
          · subst hij
            rw [hoj] at hoi; cases hoi
            rw [hpre e he hb]; simp
          · rw [if_neg hij] at hi
            rw [hcl i oi hi hoi e he hb]; simp
        have next : ∀ (m' : Map) (a' : Act) (w' : World), (∃ s2 : St, Rel C m' s2 a'.tmps w' ∧ (∀ t, s2.get t = if o.dst = some t then (out j).av else (sD F ops out s (fun i => listed.getD i false) ops.size).get t) ∧
              (s2.H = if F.W o = true then (out j).H else (sD F ops out s (fun i => listed.getD i false) ops.size).H) ∧ s2.n = s.n) → a'.defers = ds → anyR P .any ops Q fuel (listed.setIfInBounds j true) a' w' := by
          rintro m' a' w' ⟨s2, R2, e1, e2, e3⟩ hd'
          refine ih _ m' a' w' (by simpa using hsz) hcnt' hcl' (R2.congr (fun t => ?_) ?_ ?_) hd'
          · rw [insertGet, e1]
          · rw [insertH, e2]
          · rw [sD_n, e3]
        have hgd : ∀ b, guardA ops (sD F ops out s (fun _ => true) j) o = some b → guardA ops (sD F ops out s (fun i => listed.getD i false) ops.size) o = some b := by
          intro b h
          unfold guardA at h ⊢
          split at h
          · exact h
          · rename_i g want e
            split at h
            · rename_i d hdd
              have : (sD F ops out s (fun i => listed.getD i false) ops.size).get d = (sD F ops out s (fun _ => true) j).get d := agree d (by
                unfold Oper.looksAt
                rw [e]
                simp [hdd])
              rw [this]
              exact h
            · cases h
        have hsn : (sD F ops out s (fun i => listed.getD i false) ops.size).n = s.n := sD_n _ _ _ _
        obtain ⟨fd, fh⟩ := hfact j o hoj
        unfold onR
        rw [hoj]
        simp only
        rcases fh with ⟨hg, hdead, hw⟩ | ⟨hg, hloc⟩
        · rw [guardA_wanted (P := P) R (hgd _ hg)]
          simp only [Bool.false_eq_true, if_false]
          refine next m _ w ⟨_, R.put (fun t ht => by rw [hsn]; exact fd t ht) (.p _ _ reads_un), fun t => ?_, ?_, ?_⟩ (by rw [put_defers]; exact hd)
          · rw [get_put, hdead]
          · rw [St.put_H, hw]; simp
          · rw [St.put_n, hsn]
        · rw [guardA_wanted (P := P) R (hgd _ hg)]
          simp only [if_true]
          left
          have hag : Agree o (sD F ops out s (fun _ => true) j) (sD F ops out s (fun i => listed.getD i false) ops.size) := by
            intro x hx
            cases x with
            | tmp t =>
              simp only [St.ev]
              refine agree t ?_
              unfold Oper.looksAt
              rw [List.mem_append]
              left
              rw [List.mem_filterMap]
              exact ⟨.tmp t, by simpa using hx, rfl⟩
            | _ => rfl
          have hn2 : (sD F ops out s (fun i => listed.getD i false) ops.size).n = (sD F ops out s (fun _ => true) j).n := by rw [sD_n, sD_n]
          by_cases hT : F.T o = true
          · refine hloc.here _ hn2 hag (agreeH hT) C m a w _ Q R fun v m' w' R' hv => ?_
            refine next m' _ w' ⟨_, R'.put (fun t ht => by simp only; rw [hsn]; exact fd t ht) hv, fun t => ?_, ?_, ?_⟩ (by rw [put_defers]; exact hd)
            · rw [get_put]; rfl
            · rw [St.put_H]
              by_cases hw : F.W o = true
              · rw [if_pos hw]
              · rw [if_neg hw, agreeH hT]; exact hloc.calm (by simpa using hw)
            · rw [St.put_n]; exact hsn
          · obtain ⟨e1, e2⟩ := hloc.free (by simpa using hT)
            refine e2 _ hn2 hag C m a w _ Q R fun v m' w' R' hv => ?_
            have hw : F.W o = false := by
              rw [Bool.eq_false_iff]
              exact fun hw => hT (F.wt hw)
            refine next m' _ w' ⟨_, R'.put (fun t ht => by simp only; rw [hsn]; exact fd t ht) hv, fun t => ?_, ?_, ?_⟩ (by rw [put_defers]; exact hd)
            · rw [get_put]
            · rw [St.put_H, hw]; simp
            · rw [St.put_n]; exact hsn
  refine key ops.size (Array.replicate ops.size false) m a w (by simp) ?_ ?_ ?_ hd
  · have : ∀ i ∈ List.range ops.size, (!(Array.replicate ops.size false).getD i true) = true := by
      intro i hi
      have hi : i < ops.size := by simpa using hi
      simp [Array.getD_eq_getD_getElem?, hi]
    rw [List.countP_eq_length.2 this]
    simp
  · intro j o hj
    exfalso
    simp only [Array.getD_eq_getD_getElem?, Array.getElem?_replicate] at hj
    split at hj <;> simp at hj
  · refine R.congr (fun t => ?_) ?_ (sD_n _ _ _ _)
    · refine sD_get_stay out s _ t 0 ops.size (Nat.zero_le _) fun i _ hi h => ?_
      simp only [Array.getD_eq_getD_getElem?, Array.getElem?_replicate] at h
      split at h <;> simp at h
    · refine sD_H_stay out s _ 0 ops.size (Nat.zero_le _) fun i _ hi h => ?_
      simp only [Array.getD_eq_getD_getElem?, Array.getElem?_replicate] at h
      split at h <;> simp at h
end
def noGW (F : FW) (l : List Oper) : Bool := l.all fun o => o.guard.isNone || !F.W o
def Runs (F : FW) (P : Program) (all : Array Oper) (rest : List Oper) (K : St → Prop) (s : St) : Prop := ∃ s', Run1 F P true all rest s s' ∧ K s'
section
variable {F : FW} {P : Program} {all : Array Oper} {o : Oper} {rest : List Oper} {K : St → Prop} {s : St}
end
end Go.Pv.Fw

namespace Go.Pv
open Go.RowKit
section
variable {P : Program} {T : TypeId → Option TI}
end
end Go.Pv

namespace Go.Pv
open Go.RowKit
section
variable {P : Program} {T : TypeId → Option TI} {C : Ctx} {m : Map} {s : St} {tmps : Array Value} {w : World}
def FnQ (P : Program) (q : Nat) (f : FuncId) (args : List AV) (H0 : Heap) (r : AV) (H1 : Heap) : Prop :=
  Fun P f ∧ ∀ (C : Ctx) (m : Map) (w : World) (vals : Array Value), Rel C m ⟨args.length, entA 0 args, H0 ++ ancs 0 q⟩ vals w →
    Calls P f vals w fun e w' => ∃ v m', e = .returned v ∧ Rel C m' ⟨1, [(0, r)], H1 ++ ancs 0 q⟩ #[v] w'
theorem fnq_of (hT : ∀ t ti, T t = some ti → tiOf P t = some ti) {q : Nat} {f : FuncId} {fn : Func} {c : Code} {args : List AV} {av : AV} {H0 H1 : Heap} (hf : P.funcs[f]? = some fn) (hb : fn.body = some c) (hnm : (fn.name == "runtime.NumGoroutine") = false) (hn : args.length ≤ fn.ntmps)
    (h : Holds P c (PostG T fn.results.toList av (H1 ++ ancs 0 q)) ⟨fn.ntmps, entA 0 args, H0 ++ ancs 0 q⟩) : FnQ P q f args H0 av H1 := by
  refine ⟨⟨fn, hf, hnm, by rw [hb]; rfl⟩, fun C m w vals R0 => calls_of_wp hf hb (wpR_none.1 ?_)⟩
  have hsz : vals.size = args.length := R0.size
  have R : Rel C m ⟨fn.ntmps, entA 0 args, H0 ++ ancs 0 q⟩ (vals ++ Array.replicate (fn.ntmps - vals.size) undef) w := by
    refine ⟨R0.laid, R0.below, R0.base, by simp; omega, R0.inj, R0.blk, R0.fro, fun t => ?_, R0.mp⟩
    have hs := R0.slot t
    by_cases ht : t < vals.size
    · rw [Array.getD_eq_getD_getElem?, Array.getElem?_append_left ht, ← Array.getD_eq_getD_getElem?]
      exact hs
    · have e : lk (entA 0 args) t = .dead := by
        rw [entA_lk, if_pos (Nat.zero_le _), List.getD_eq_getElem?_getD, List.getElem?_eq_none (by omega)]; rfl
      unfold St.get
      simp only
      rw [e]
      exact .dead _
  refine wpR_mono (h none [] _ _ { tmps := vals ++ Array.replicate (fn.ntmps - vals.size) undef, defers := [] } w R rfl) fun e a' w' ⟨s', m', h1, h2, h3⟩ => ?_
  have fini : endG T fn.results.toList av (H1 ++ ancs 0 q) s' → a'.defers = [] ∧ ∃ v, (results fn a'.tmps).run P w' = .ok v w' ∧ ∃ v_1 m'', Ending.returned v = .returned v_1 ∧ Rel C m'' ⟨1, [(0, av)], H1 ++ ancs 0 q⟩ #[v_1] w' := by
    intro he
    unfold endG at he
    split at he
    · rename_i p l hl
      obtain ⟨hp, π, hav, hsc, hle⟩ := he
      obtain ⟨vs, e1, e2, e3⟩ := rvsA_run hT h2 fn.results.toList hl hp
      have hv := mkTup_val (w := w') e2 e3
      have R' := h2.weaken hle
      rw [hav] at hv
      have hlen : (H1 ++ ancs 0 q).length = π.length := (hle.2.2.1.get).1.symm
      have ho := OK.weaken (C := C) (m := m') (w := w') hle.2.2.1
      have hv2 := hv.unren (fun p v h => h.mono ho) hlen hsc
      refine ⟨h3, (if h : vs.toArray.size = 1 then vs.toArray[0] else .tuple vs.toArray), ?_, _, _, rfl, R'.laid, R'.below, R'.base, rfl, R'.inj, R'.blk, R'.fro, fun t => ?_, R'.mp⟩
      · rw [results_eq, Array.mapM_eq_mapM_toList]
        simp only [Sem.run_bind, Sem.run_map]
        rw [e1]
        simp only [Result.andThen_ok]
        rfl
      · cases t with
        | zero => exact hv2
        | succ t => exact .dead _
    · exact he.elim
  cases e with
  | normal => exact fini h1
  | ret => exact fini h1
  | _ => exact h1.elim
def clA : AV → Option (FuncId × List AV)
  | .cl g l => some (g, l)
  | .p (.fn g l) => some (g, l.map .p)
  | _ => none
theorem clA_val {a : Act} (R : Rel C m s a.tmps w) {fo : Operand} {g : FuncId} {cap : List AV} (h : clA (s.ev fo) = some (g, cap)) :
    ∃ vs : Array Value, a.eval fo = .func (.func g) #[] vs ∧ vs.size = cap.length ∧ ∀ c (h : c < cap.length), AVal (Reads (OK C m s.H w) w) m s.H cap[c] (vs.getD c undef) := by
  have hv := R.ev fo
  generalize a.eval fo = v at hv
  unfold clA at h
  split at h
  · rename_i g' l e
    simp only [Option.some.injEq, Prod.mk.injEq] at h
    obtain ⟨rfl, rfl⟩ := h
    rw [e] at hv
    cases hv with
    | cl _ _ vs hl hr => exact ⟨vs, rfl, hl, hr⟩
  · rename_i g' l e
    simp only [Option.some.injEq, Prod.mk.injEq] at h
    obtain ⟨rfl, rfl⟩ := h
    rw [e] at hv
    have hv := hv.p_inv
    cases hv with
    | fn _ _ vs hl hr =>
      refine ⟨vs, rfl, by simpa using hl, fun c hc => ?_⟩
      rw [List.getElem_map]
      exact .p _ _ (hr c (by simpa using hc))
  · cases h
theorem Rel.lend (R : Rel C m s tmps w) {q : Nat} {ks : List Nat} {avs : List AV} {H0 : Heap} {vals : Array Value} (hle : LeH ks s.H ks H0) (hnd : ks.Nodup) (hq : q ≤ H0.length) (hna : H0.all notAnc = true) (hsz : vals.size = avs.length)
    (hv : ∀ t (h : t < avs.length), AVal (Reads (OK (subC C m s.H ks H0 w) (mren m ks) H0 w) w) (mren m ks) H0 avs[t] (vals.getD t undef)) : Rel (subC C m s.H ks H0 w) (mren m ks) ⟨avs.length, entA 0 avs, H0 ++ ancs 0 q⟩ vals w := by
  obtain ⟨g1, g2⟩ := hle.get
  have ho1 : ∀ b, OK C m s.H w b → OK (subC C m s.H ks H0 w) (mren m ks) H0 w b := by
    refine fun b h => ⟨.inl h, h.2.1, fun k c l hk hl => ?_⟩
    obtain ⟨k', d, a1, a2, _⟩ := LeH.own g2 k c hk
    simp only [mren, a1, Option.bind_some] at hl
    exact h.2.2 k' _ l a2 hl
  have R0 : Rel (subC C m s.H ks H0 w) (mren m ks) ⟨avs.length, entA 0 avs, H0⟩ vals w := by
    refine R.weakenC (s1 := ⟨avs.length, entA 0 avs, H0⟩) hsz hnd hle ho1 (BelowP.refl _ _) (fun b h => .inl h) (fun k b l h hw hl _ => .inr ⟨k, b, l, h, hw, hl, rfl⟩) (fun k i j h => ?_) fun t => ?_
    · exact absurd rfl (notAnc_spec ((List.all_eq_true.1 hna) _ (List.mem_of_getElem? h)) i j)
    · unfold St.get
      simp only
      rw [entA_lk, if_pos (Nat.zero_le _), Nat.sub_zero]
      by_cases ht : t < avs.length
      · have := hv t ht
        simpa [List.getD, List.getElem?_eq_getElem ht] using this
      · rw [List.getD_eq_getElem?_getD, List.getElem?_eq_none (by omega)]
        exact .dead _
  exact R0.addAnc (n := q) hq fun i _ => rfl
theorem lend_ok {ks : List Nat} {H0 : Heap} (hle : LeH ks s.H ks H0) : ∀ b, OK C m s.H w b → OK (subC C m s.H ks H0 w) (mren m ks) H0 w b := by
  obtain ⟨g1, g2⟩ := hle.get
  refine fun b h => ⟨.inl h, h.2.1, fun k c l hk hl => ?_⟩
  obtain ⟨k', d, a1, a2, _⟩ := LeH.own g2 k c hk
  simp only [mren, a1, Option.bind_some] at hl
  exact h.2.2 k' _ l a2 hl
theorem scQ_parts {q : Nat} {r : AV} {H0 H1 : Heap} (h : scQ q r H0 H1 = true) : q ≤ H1.length ∧ q ≤ H0.length ∧ H0.all notAnc = true := by
  unfold scQ at h
  rw [Bool.and_eq_true, Bool.and_eq_true, Bool.and_eq_true, Bool.and_eq_true, Bool.and_eq_true, Bool.and_eq_true, decide_eq_true_eq, decide_eq_true_eq] at h
  exact ⟨h.1.1.1.1.2, h.1.1.1.2, h.2⟩
theorem call_doesQ {o : Oper} {fo : Operand} {args : Array Operand} {ts : Array TypeId} (ho : o.op = .call { callee := .value fo, args := args, argTypes := ts }) {g : FuncId} {cap : List AV} (hfo : clA (s.ev fo) = some (g, cap)) {q : Nat} {ks : List Nat} {avs : List AV} {H0 H1 : Heap} {r : AV}
    (hc : FnQ P q g avs H0 r H1) (hargs : argsM s.H ks (args.toList.map s.ev ++ cap) avs) (hle : LeH ks s.H ks H0) (hnd : ks.Nodup) (hks : ks.all (fun k => decide (k < s.H.length)) = true) (hsc : scQ q r H0 H1 = true) :
    DoesW P o s (Go.Pv.ren (ks.take q ++ List.range' s.H.length (H1.length - q)) r) (putM (kills s.H (ks.drop q)) (ks.take q) (H1.map (Blk.ren (ks.take q ++ List.range' s.H.length (H1.length - q))))) := by
  intro C m a w K Q R hK
  have hks' : ∀ k ∈ ks, k < s.H.length := fun k hk => by simpa using (List.all_eq_true.1 hks) k hk
  obtain ⟨vs, hfe, hcl, hcr⟩ := clA_val R hfo
  obtain ⟨⟨fn, hfn, hnm, hbd⟩, hcalls⟩ := hc
  obtain ⟨_, hq, hna⟩ := scQ_parts hsc
  have hrun : (execOp a.eval o).run P w = .ok (.enter g (args.map a.eval ++ vs)) w := by
    have hnm' : ¬ fn.name = "runtime.NumGoroutine" := by simpa using hnm
    have hbd' : ¬ fn.body = none := by intro e; rw [e] at hbd; simp at hbd
    simp [execOp, ho, resolve, hfe, Deferred.ofValue, invoke, callFunc, hfn, hnm', hbd']
  refine opR_of_wp (by rw [ho]; rfl) ?_
  unfold Oper.wp
  rw [hrun]
  simp only [Oper.upon]
  have g1 := (hle.get).1
  obtain ⟨e1, e2⟩ := argsM_val R (rd' := Reads (OK (subC C m s.H ks H0 w) (mren m ks) H0 w) w) (H0 := H0) (fun p v h => h.mono (lend_ok hle)) g1.symm _ avs (fun i => (args.map a.eval ++ vs).getD i undef) hargs fun i hi => by
    simp only [List.length_append, List.length_map, Array.length_toList] at hi
    by_cases hip : i < args.size
    · rw [List.getElem_append_left (by simpa using hip)]
      simp only [Array.getD_eq_getD_getElem?]
      rw [Array.getElem?_append_left (by simpa using hip)]
      have := R.ev args[i]
      simpa [Array.getElem?_eq_getElem hip] using this
    · rw [List.getElem_append_right (by simp; omega)]
      simp only [Array.getD_eq_getD_getElem?]
      rw [Array.getElem?_append_right (by simp; omega)]
      simp only [List.length_map, Array.length_toList, Array.size_map]
      have := hcr (i - args.size) (by omega)
      rw [Array.getD_eq_getD_getElem?] at this
      exact this
  have hsz : (args.map a.eval ++ vs).size = avs.length := by
    rw [e1]; simp; omega
  have R0' := R.lend (q := q) hle hnd hq hna hsz e2
  refine (hcalls _ _ w _ R0').mono fun e w' ⟨v, m', he, R1⟩ => ?_
  subst he
  obtain ⟨m2, R2, hv, _⟩ := R.joinQ hle hks' R1 hsc
  exact hK v m2 w' R2 hv
theorem runs_callQ {all : Array Oper} {rest : List Oper} {K : St → Prop} {dst : Option Tmp} {ty : TypeId} {pos : String} {aft : Array Edge} {gd : Option (Nat × Bool)} {fo : Operand} {args : Array Operand} {ts : Array TypeId} {g : FuncId} {avs : List AV} {H0 H1 : Heap} {r : AV} {q : Nat} (ks : List Nat)
    (hc : FnQ P q g avs H0 r H1) {cap : List AV} (hfo : clA (s.ev fo) = some (g, cap)) (hg : guardA all s { dst := dst, op := .call { callee := .value fo, args := args, argTypes := ts }, type := ty, pos := pos, after := aft, guard := gd } = some true)
    (hargs : argsM s.H ks (args.toList.map s.ev ++ cap) avs) (hle : LeH ks s.H ks H0) (hnd : ks.Nodup) (hks : ks.all (fun k => decide (k < s.H.length)) = true) (hsc : scQ q r H0 H1 = true) (hd : dstOk s dst)
    (h : Runs P false all rest K (({ s with H := putM (kills s.H (ks.drop q)) (ks.take q) (H1.map (Blk.ren (ks.take q ++ List.range' s.H.length (H1.length - q)))) } : St).put dst (Go.Pv.ren (ks.take q ++ List.range' s.H.length (H1.length - q)) r))) :
    Runs P false all ({ dst := dst, op := .call { callee := .value fo, args := args, argTypes := ts }, type := ty, pos := pos, after := aft, guard := gd } :: rest) K s := by
  obtain ⟨s', hr, hK⟩ := h
  exact ⟨s', .cons (.op s _ _ hg (dstOk_spec hd) (call_doesQ rfl hfo hc hargs hle hnd hks hsc) fun h => by cases h) hr, hK⟩
end
end Go.Pv

namespace Go.Pv
open Go.RowKit
section
variable {P : Program} {T : TypeId → Option TI} {C : Ctx} {m : Map} {s : St} {tmps : Array Value} {w : World} {t : TypeId}
def Thrown (t : TypeId) (ch : List PanicEntry) : Prop := ch = [{ v := .iface t (.agg #[]), recovered := false }]
theorem Rel.none (R : Rel C m s tmps w) : Rel C (mren m []) ⟨s.n, [], []⟩ tmps w :=
  R.weaken (π := []) ⟨rfl, List.nodup_nil, trivial, trivial⟩
def FnX (P : Program) (q : Nat) (t : TypeId) (f : FuncId) (args : List AV) (H0 : Heap) : Prop :=
  Fun P f ∧ ∀ (C : Ctx) (m : Map) (w : World) (vals : Array Value), Rel C m ⟨args.length, entA 0 args, H0 ++ ancs 0 q⟩ vals w →
    Calls P f vals w fun e w' => ∃ ch n tmps m', e = .panicked ch ∧ Thrown t ch ∧ Rel C m' ⟨n, [], []⟩ tmps w'
def FnO (P : Program) (q : Nat) (t : TypeId) (f : FuncId) (args : List AV) (H0 : Heap) : Option (AV × Heap) → Prop
  | some x => FnQ P q f args H0 x.1 x.2
  | .none => FnX P q t f args H0
def PostO (T : TypeId → Option TI) (t : TypeId) (rs : List ResultVar) (q : Nat) : Option (AV × Heap) → Exit → St → Prop
  | some x => PostG T rs x.1 (x.2 ++ ancs 0 q)
  | .none => fun e _ => ∃ ch, e = .panic ch ∧ Thrown t ch
theorem fnx_of {q : Nat} {f : FuncId} {fn : Func} {c : Code} {args : List AV} {H0 : Heap} (hf : P.funcs[f]? = some fn) (hb : fn.body = some c) (hnm : (fn.name == "runtime.NumGoroutine") = false) (hn : args.length ≤ fn.ntmps)
    (h : Holds P c (fun e _ => ∃ ch, e = .panic ch ∧ Thrown t ch) ⟨fn.ntmps, entA 0 args, H0 ++ ancs 0 q⟩) : FnX P q t f args H0 := by
  refine ⟨⟨fn, hf, hnm, by rw [hb]; rfl⟩, fun C m w vals R0 => calls_of_wp hf hb (wpR_none.1 ?_)⟩
  have hsz : vals.size = args.length := R0.size
  have R : Rel C m ⟨fn.ntmps, entA 0 args, H0 ++ ancs 0 q⟩ (vals ++ Array.replicate (fn.ntmps - vals.size) undef) w := by
    refine ⟨R0.laid, R0.below, R0.base, by simp; omega, R0.inj, R0.blk, R0.fro, fun t => ?_, R0.mp⟩
    have hs := R0.slot t
    by_cases ht : t < vals.size
    · rw [Array.getD_eq_getD_getElem?, Array.getElem?_append_left ht, ← Array.getD_eq_getD_getElem?]
      exact hs
    · have e : lk (entA 0 args) t = .dead := by
        rw [entA_lk, if_pos (Nat.zero_le _), List.getD_eq_getElem?_getD, List.getElem?_eq_none (by omega)]; rfl
      unfold St.get
      simp only
      rw [e]
      exact .dead _
  refine wpR_mono (h Option.none [] _ _ { tmps := vals ++ Array.replicate (fn.ntmps - vals.size) undef, defers := [] } w R rfl) fun e a' w' ⟨s', m', ⟨ch, he, hc⟩, h2, h3⟩ => ?_
  subst he
  exact ⟨h3, ch, _, _, _, rfl, hc, h2.none⟩
theorem fno_of (hT : ∀ t ti, T t = some ti → tiOf P t = some ti) {q : Nat} {f : FuncId} {fn : Func} {c : Code} {args : List AV} {H0 : Heap} {o : Option (AV × Heap)} (hf : P.funcs[f]? = some fn) (hb : fn.body = some c) (hnm : (fn.name == "runtime.NumGoroutine") = false) (hn : args.length ≤ fn.ntmps)
    (h : Holds P c (PostO T t fn.results.toList q o) ⟨fn.ntmps, entA 0 args, H0 ++ ancs 0 q⟩) : FnO P q t f args H0 o := by
  cases o with
  | some x => exact fnq_of hT hf hb hnm hn h
  | none => exact fnx_of hf hb hnm hn h
def Throws (P : Program) (t : TypeId) (o : Oper) (s : St) (H' : Heap) : Prop :=
  ∀ C m (a : Act) w (K : Act → World → Prop) (Q : Exit → Act → World → Prop), Rel C m s a.tmps w → (∀ ch m' w', Thrown t ch → Rel C m' { s with H := H' } a.tmps w' → Q (.panic ch) a w') → opR P o a w K Q
theorem call_throws {o : Oper} {fo : Operand} {args : Array Operand} {ts : Array TypeId} (ho : o.op = .call { callee := .value fo, args := args, argTypes := ts }) {g : FuncId} {cap : List AV} (hfo : clA (s.ev fo) = some (g, cap)) {q : Nat} {ks : List Nat} {avs : List AV} {H0 : Heap}
    (hc : FnX P q t g avs H0) (hargs : argsM s.H ks (args.toList.map s.ev ++ cap) avs) (hle : LeH ks s.H ks H0) (hnd : ks.Nodup) (hks : ks.all (fun k => decide (k < s.H.length)) = true) (hq : q ≤ H0.length) (hna : H0.all notAnc = true) (hsp : H0.all (fun b => !b.spc) = true) :
    Throws P t o s (kills s.H ks) := by
  intro C m a w K Q R hK
  have hks' : ∀ k ∈ ks, k < s.H.length := fun k hk => by simpa using (List.all_eq_true.1 hks) k hk
  obtain ⟨vs, hfe, hcl, hcr⟩ := clA_val R hfo
  obtain ⟨⟨fn, hfn, hnm, hbd⟩, hcalls⟩ := hc
  have hrun : (execOp a.eval o).run P w = .ok (.enter g (args.map a.eval ++ vs)) w := by
    have hnm' : ¬ fn.name = "runtime.NumGoroutine" := by simpa using hnm
    have hbd' : ¬ fn.body = .none := by intro e; rw [e] at hbd; simp at hbd
    simp [execOp, ho, resolve, hfe, Deferred.ofValue, invoke, callFunc, hfn, hnm', hbd']
  refine opR_of_wp (by rw [ho]; rfl) ?_
  unfold Oper.wp
  rw [hrun]
  simp only [Oper.upon]
  have g1 := (hle.get).1
  obtain ⟨e1, e2⟩ := argsM_val R (rd' := Reads (OK (subC C m s.H ks H0 w) (mren m ks) H0 w) w) (H0 := H0) (fun p v h => h.mono (lend_ok hle)) g1.symm _ avs (fun i => (args.map a.eval ++ vs).getD i undef) hargs fun i hi => by
    simp only [List.length_append, List.length_map, Array.length_toList] at hi
    by_cases hip : i < args.size
    · rw [List.getElem_append_left (by simpa using hip)]
      simp only [Array.getD_eq_getD_getElem?]
      rw [Array.getElem?_append_left (by simpa using hip)]
      have := R.ev args[i]
      simpa [Array.getElem?_eq_getElem hip] using this
    · rw [List.getElem_append_right (by simp; omega)]
      simp only [Array.getD_eq_getD_getElem?]
      rw [Array.getElem?_append_right (by simp; omega)]
      simp only [List.length_map, Array.length_toList, Array.size_map]
      have := hcr (i - args.size) (by omega)
      rw [Array.getD_eq_getD_getElem?] at this
      exact this
  have hsz : (args.map a.eval ++ vs).size = avs.length := by
    rw [e1]; simp; omega
  have R0' := R.lend (q := q) hle hnd hq hna hsz e2
  refine (hcalls _ _ w _ R0').mono fun e w' ⟨ch, n, tmps, m', he, hch, R1⟩ => ?_
  subst he
  have R2 : Rel (subC C m s.H ks H0 w) m' ⟨1, [(0, .dead)], [] ++ ancs 0 0⟩ #[undef] w' :=
    ⟨R1.laid, R1.below, R1.base, rfl, R1.inj, R1.blk, R1.fro, fun t => by
      cases t with
      | zero => exact .dead _
      | succ t => exact .dead _, R1.mp⟩
  obtain ⟨m2, R3, _⟩ := R.joinQ (q := 0) (H1 := []) hle hks' R2 (by
    unfold scQ
    simp only [List.drop_zero, hsp, hna, List.take_zero]
    rfl)
  refine hK ch m2 w' hch ?_
  have e : putM (kills s.H (ks.drop 0)) (ks.take 0) (([] : Heap).map (Blk.ren (ks.take 0 ++ List.range' s.H.length (([] : Heap).length - 0)))) = kills s.H ks := by
    simp [putM]
  rw [e] at R3
  exact R3
theorem hk_regX {id : Nat} {L : List Oper} {Q : Exit → St → Prop} (n : Nat)
    (h : Runs P false L.toArray (L.take n) (fun s1 => ∃ o H', L[n]? = some o ∧ guardA L.toArray s1 o = some true ∧ Throws P t o s1 H' ∧ ∀ ch, Thrown t ch → Q (.panic ch) { s1 with H := H' }) s) : Holds P (.region id L.toArray false) Q s := by
  intro r ds C m a w R hd
  obtain ⟨s1, hr, o, H', ho, hg, hth, hQ⟩ := h
  refine wpR_region_lit ?_
  have hL : L = L.take n ++ (o :: L.drop (n + 1)) := by
    have hn := (List.getElem?_eq_some_iff.1 ho).1
    have h1 := List.drop_eq_getElem_cons (l := L) (i := n) hn
    rw [List.getElem?_eq_getElem hn, Option.some.injEq] at ho
    rw [ho] at h1
    rw [← h1, List.take_append_drop]
  have go : lstR P L.toArray (fun e a' w' => ∃ s' m', Q e s' ∧ Rel C m' s' a'.tmps w' ∧ a'.defers = ds) (L.take n ++ (o :: L.drop (n + 1))) a w := by
    refine hr.soundK R hd fun m' a' w' R' hd' => ?_
    have hw := guardA_wanted (P := P) R' hg
    refine lstR_step fun K hK => ?_
    rw [if_pos hw]
    exact hth C m' a' w' K _ R' fun ch m2 w2 hch R2 => ⟨_, m2, hQ ch hch, R2, hd'⟩
  rwa [← hL] at go
theorem eval_put_self {a : Act} {d : Nat} {v : Value} (h : d < a.tmps.size) : (a.put (some d) v).eval (.tmp d) = v := by
  simp [Act.put, Act.eval, Array.getD_eq_getD_getElem?, Array.getElem?_setIfInBounds, h]
theorem hk_throw (hT : ∀ t ti, T t = some ti → tiOf P t = some ti) {ti : TI} (ht : T t = some ti) (hk : ti.kind = .struct []) (hz : ti.zero = []) {id a b ty1 ty2 ty3 : Nat} {p1 p2 p3 : String} {e1 e2 e3 : Array Edge} {Q : Exit → St → Prop} (ha : a < s.n) (hb : b < s.n)
    (hQ : ∀ ch s', Thrown t ch → s'.n = s.n → s'.H = s.H → Q (.panic ch) s') :
    Holds P (.region id #[{ dst := some a, op := .build t #[], type := ty1, pos := p1, after := e1, guard := .none }, { dst := some b, op := .makeInterface t (.tmp a), type := ty2, pos := p2, after := e2, guard := .none }, { dst := .none, op := .panic (.tmp b), type := ty3, pos := p3, after := e3, guard := .none }] false) Q s := by
  intro r ds C m ac w R hd
  refine wpR_region_lit (l := [_, _, _]) ?_
  refine lstR_plain rfl fun K hK => ?_
  obtain ⟨hr1, v, hv1, hv2⟩ := buildA_does hT R (o := { dst := some a, op := .build t #[], type := ty1, pos := p1, after := e1, guard := .none }) (t := t) (parts := #[]) rfl ht (r := ⟨True, .p (.agg []), s.H⟩) (by unfold buildA; rw [hk, hz]; rfl) trivial
  have hv : v = .agg #[] := by
    have := hv2.p_inv
    cases this with
    | agg _ vs hl _ =>
      have : vs = #[] := by
        apply Array.eq_empty_of_size_eq_zero
        simpa using hl
      rw [this]
  subst hv
  refine opR_of_wp rfl ?_
  unfold Oper.wp
  rw [hv1]
  simp only [Oper.upon]
  refine hK _ _ ?_
  have R1 : Rel C m (s.put (some a) .dead) (ac.put (some a) (.agg #[])).tmps w := R.put (fun t h => by cases h; exact ha) (.dead _)
  refine lstR_plain rfl fun K hK => ?_
  have hu : ∃ fs, P.underlying t = some (.struct fs) := by
    obtain ⟨fs, h, _⟩ := ti_struct (hT _ _ ht) hk
    exact ⟨fs, h⟩
  obtain ⟨fs, hu⟩ := hu
  have h2 : (execOp (ac.put (some a) (.agg #[])).eval { dst := some b, op := .makeInterface t (.tmp a), type := ty2, pos := p2, after := e2, guard := .none }).run P w = .ok (.value (.iface t (.agg #[]))) w := by
    simp only [execOp, Instr.makeInterface]
    rw [eval_put_self (by rw [R.size]; exact ha)]
    simp [run_underlying hu]
  refine opR_of_wp rfl ?_
  unfold Oper.wp
  rw [h2]
  simp only [Oper.upon]
  refine hK _ _ ?_
  have R2 : Rel C m ((s.put (some a) .dead).put (some b) .dead) ((ac.put (some a) (.agg #[])).put (some b) (.iface t (.agg #[]))).tmps w := R1.put (fun t h => by cases h; exact hb) (.dead _)
  refine lstR_plain rfl fun K hK => ?_
  have h3 : (execOp ((ac.put (some a) (.agg #[])).put (some b) (.iface t (.agg #[]))).eval { dst := .none, op := .panic (.tmp b), type := ty3, pos := p3, after := e3, guard := .none }).run P w = .halt (.panic (.iface t (.agg #[]))) w := by
    simp only [execOp]
    rw [eval_put_self (by rw [R1.size]; exact hb)]
    simp [Instr.panic, goPanic]
  refine opR_of_wp rfl ?_
  unfold Oper.wp
  rw [h3]
  simp only [Oper.upon]
  exact ⟨_, m, hQ _ ((s.put (some a) .dead).put (some b) .dead) rfl rfl rfl, R2, by rw [put_defers, put_defers]; exact hd⟩
theorem hk_drawX (hm : P.follows .mixedOrders = true) {id : Nat} {ops : Array Oper} {Q : Exit → St → Prop} (n : Nat) {on : Oper} (hn : ops[n]? = some on) (out : Nat → AV) {H' : Heap}
    (hedge : ∀ (j : Nat) (o : Oper), ops[j]? = some o → ∀ e ∈ o.after.toList, Region.binds .any e = true → e.on < j)
    (hdst : ∀ (i j : Nat) (oi oj : Oper) (t : Nat), ops[i]? = some oi → ops[j]? = some oj → oi.dst = some t → oj.dst = some t → i = j)
    (hbig : ∀ (j : Nat) (o : Oper), ops[j]? = some o → j ≠ n → (∃ e ∈ o.after.toList, Region.binds .any e = true ∧ e.on = n) ∨
      (o.guard = .none ∧ (∀ t, o.dst = some t → t < s.n) ∧ (∀ x ∈ o.op.operands, ∀ t, x = .tmp t → ∀ (i : Nat) (oi : Oper), ops[i]? = some oi → oi.dst ≠ some t) ∧
        ∀ s2 : St, s2.n = s.n → s2.H = s.H → (∀ x ∈ o.op.operands, s2.ev x = s.ev x) → DoesW P o s2 (out j) s.H))
    (hg : on.guard = .none)
    (hth : ∀ s2 : St, s2.n = s.n → s2.H = s.H → (∀ t, (∀ (i : Nat) (oi : Oper), ops[i]? = some oi → oi.dst ≠ some t) → s2.get t = s.get t) → (∀ e ∈ on.after.toList, Region.binds .any e = true → ∀ (o : Oper) (t : Nat), ops[e.on]? = some o → o.dst = some t → s2.get t = out e.on) → Throws P t on s2 H')
    (hQ : ∀ ch s', Thrown t ch → s'.n = s.n → s'.H = H' → (∀ t, (∀ (i : Nat) (oi : Oper), ops[i]? = some oi → oi.dst ≠ some t) → s'.get t = s.get t) → Q (.panic ch) s') : Holds P (.region id ops true) Q s := by
  intro r ds C m a w R hd
  refine wpR_region_any hm ?_
  have hnl : n < ops.size := (Array.getElem?_eq_some_iff.1 hn).1
  have key : ∀ (fuel : Nat) (listed : Array Bool) (s2 : St) (m : Map) (a : Act) (w : World), listed.size = ops.size → (List.range ops.size).countP (fun i => !listed.getD i true) = fuel → listed.getD n false = false →
      s2.n = s.n → s2.H = s.H → (∀ t, (∀ (i : Nat) (oi : Oper), ops[i]? = some oi → oi.dst ≠ some t) → s2.get t = s.get t) → (∀ (j : Nat) (o : Oper) (t : Nat), listed.getD j false = true → ops[j]? = some o → o.dst = some t → s2.get t = out j) →
      Rel C m s2 a.tmps w → a.defers = ds → anyR P .any ops (fun e a' w' => ∃ s' m', Q e s' ∧ Rel C m' s' a'.tmps w' ∧ a'.defers = ds) fuel listed a w := by
    intro fuel
    induction fuel with
    | zero =>
      intro listed s2 m a w hsz hcnt hln
      exfalso
      have := List.countP_eq_zero.1 hcnt n (by simpa using hnl)
      simp [Array.getD_eq_getD_getElem?, Array.getElem?_eq_getElem (show n < listed.size by omega)] at this hln
      rw [this] at hln; cases hln
    | succ fuel ih =>
      intro listed s2 m a w hsz hcnt hln e1 e2 e3 e4 R hd
      refine ⟨fun hnil => ?_, fun j hj => ?_⟩
      · exfalso
        have hex : ∃ i, i < ops.size ∧ listed.getD i true = false := ⟨n, hnl, by
          simp [Array.getD_eq_getD_getElem?, Array.getElem?_eq_getElem (show n < listed.size by omega)] at hln ⊢
          exact hln⟩
        have hmin : ∃ i, i < ops.size ∧ listed.getD i true = false ∧ ∀ k, k < i → listed.getD k true = true := by
          obtain ⟨i, hi, h⟩ := hex
          induction i using Nat.strongRecOn with
          | _ i ihh =>
            by_cases hall : ∀ k, k < i → listed.getD k true = true
            · exact ⟨i, hi, h, hall⟩
            · simp only [Classical.not_forall] at hall
              obtain ⟨k, hk, hkn⟩ := hall
              exact ihh k hk (by omega) (by simpa using hkn)
        obtain ⟨i, hi, hli, hbelow⟩ := hmin
        have hmem : i ∈ Region.ready .any ops listed := by
          unfold Region.ready
          rw [List.mem_filter]
          refine ⟨by simpa using hi, ?_⟩
          rw [hli, Array.getElem?_eq_getElem hi]
          simp only [Bool.not_false, Bool.true_and, Option.map_some, Option.getD_some]
          rw [Array.all_eq_true_iff_forall_mem]
          intro e he
          by_cases hb : Region.binds .any e = true
          · have hlt := hedge i ops[i] (Array.getElem?_eq_getElem hi) e (by simpa using he) hb
            have := hbelow e.on hlt
            have hlt' : e.on < listed.size := by omega
            simp [Array.getD_eq_getD_getElem?, Array.getElem?_eq_getElem hlt'] at this ⊢
            simp [this]
          · simp [hb]
        rw [hnil] at hmem
        simp at hmem
      · unfold Region.ready at hj
        rw [List.mem_filter] at hj
        obtain ⟨hjlt, hj⟩ := hj
        have hjlt : j < ops.size := by simpa using hjlt
        have hoj : ops[j]? = some ops[j] := Array.getElem?_eq_getElem hjlt
        generalize ops[j] = o at hoj
        rw [hoj] at hj
        simp only [Option.map_some, Option.getD_some, Bool.and_eq_true, Bool.not_eq_eq_eq_not, Bool.not_true] at hj
        obtain ⟨hnl2, hal⟩ := hj
        have hjls : j < listed.size := by omega
        have hpre : ∀ e ∈ o.after.toList, Region.binds .any e = true → listed.getD e.on false = true := by
          intro e he hb
          have := (Array.all_eq_true_iff_forall_mem.1 hal) e (by simpa using he)
          rw [hb] at this
          simpa using this
        unfold onR
        rw [hoj]
        by_cases hjn : j = n
        · subst hjn
          rw [hn] at hoj; cases hoj
          simp only [Region.wanted, hg, if_true]
          refine .inl ?_
          refine hth s2 e1 e2 e3 (fun e he hb o t ho ht => e4 _ o t (hpre e he hb) ho ht) C m a w _ _ R fun ch m' w' hch R' => ?_
          exact ⟨{ s2 with H := H' }, m', hQ ch { s2 with H := H' } hch e1 rfl e3, R', hd⟩
        · rcases hbig j o hoj hjn with ⟨e, he, hb, heq⟩ | ⟨h1, h2, h3, h4⟩
          · have := hpre e he hb
            rw [heq, hln] at this; cases this
          · simp only [Region.wanted, h1, if_true]
            refine .inl ?_
            have hev : ∀ x ∈ o.op.operands, s2.ev x = s.ev x := by
              intro x hx
              cases x with
              | tmp t => exact e3 t (h3 _ hx t rfl)
              | _ => rfl
            refine h4 s2 e1 e2 hev C m a w _ _ R fun v m' w' R' hv => ?_
            rw [← e2] at R' hv
            have R2 : Rel C m' (s2.put o.dst (out j)) (a.put o.dst v).tmps w' := R'.put (fun t ht => by rw [e1]; exact h2 t ht) hv
            have hsz2 : (listed.setIfInBounds j true).size = ops.size := by rw [Array.size_setIfInBounds]; exact hsz
            have hgl : ∀ i, (listed.setIfInBounds j true).getD i false = if i = j then true else listed.getD i false := by
              intro i
              simp only [Array.getD_eq_getD_getElem?, Array.getElem?_setIfInBounds]
              by_cases hij : i = j
              · subst hij; simp [hjls]
              · rw [if_neg (fun h => hij h.symm), if_neg hij]
            have hglt : ∀ i, (listed.setIfInBounds j true).getD i true = if i = j then true else listed.getD i true := by
              intro i
              simp only [Array.getD_eq_getD_getElem?, Array.getElem?_setIfInBounds]
              by_cases hij : i = j
              · subst hij; simp [hjls]
              · rw [if_neg (fun h => hij h.symm), if_neg hij]
            refine ih _ (s2.put o.dst (out j)) m' _ w' hsz2 ?_ (by rw [hgl, if_neg (fun h => hjn h.symm)]; exact hln) (by rw [St.put_n]; exact e1) (by rw [St.put_H]; exact e2) (fun t ht => ?_) (fun i oi t hi ho ht => ?_) R2 (by rw [put_defers]; exact hd)
            · have : (List.range ops.size).countP (fun i => !(listed.setIfInBounds j true).getD i true) + 1 = (List.range ops.size).countP (fun i => !listed.getD i true) := by
                have hj1 : listed.getD j true = false := by
                  simpa using hnl2
                have hsplit : ∀ (l : List Nat), l.Nodup → j ∈ l → l.countP (fun i => !listed.getD i true) = l.countP (fun i => !(listed.setIfInBounds j true).getD i true) + 1 := by
                  intro l hnd hmem
                  induction l with
                  | nil => cases hmem
                  | cons x r ihl =>
                    rw [List.nodup_cons] at hnd
                    by_cases hxj : x = j
                    · subst hxj
                      have e1 : (listed.setIfInBounds x true).getD x true = true := by rw [hglt, if_pos rfl]
                      rw [List.countP_cons, List.countP_cons, hj1, e1]
                      have : r.countP (fun i => !listed.getD i true) = r.countP (fun i => !(listed.setIfInBounds x true).getD i true) := by
                        apply List.countP_congr
                        intro i hi
                        rw [hglt, if_neg (fun h => hnd.1 (by rw [← h]; exact hi))]
                      rw [this]; rfl
                    · rw [List.countP_cons, List.countP_cons, hglt x, if_neg hxj, ihl hnd.2 (by rcases List.mem_cons.1 hmem with h | h; exact absurd h.symm hxj; exact h)]
                      omega
                exact (hsplit _ List.nodup_range (by simpa using hjlt)).symm
              omega
            · rw [get_put, if_neg (ht j o hoj)]
              exact e3 t ht
            · rw [get_put]
              by_cases hij : i = j
              · subst hij
                rw [hoj] at ho; cases ho
                rw [if_pos ht]
              · rw [if_neg (fun h => hij (hdst i j oi o t ho hoj ht h))]
                rw [hgl, if_neg hij] at hi
                exact e4 i oi t hi ho ht
  refine key _ _ s m a _ (by simp) ?_ ?_ rfl rfl (fun _ _ => rfl) (fun j o t hj => ?_) ?_ hd
  · have h1 : ∀ i ∈ List.range ops.size, (!(Array.replicate ops.size false).getD i true) = true := by
      intro i hi
      have := List.mem_range.1 hi
      simp [Array.getD_eq_getD_getElem?, this]
    rw [List.countP_eq_length.2 h1, List.length_range]
  · simp [Array.getD_eq_getD_getElem?, Array.getElem?_replicate, hnl]
  · exfalso
    simp only [Array.getD_eq_getD_getElem?, Array.getElem?_replicate] at hj
    split at hj <;> cases hj
  · exact R.later ⟨rfl, rfl, rfl, Nat.le_refl _, fun _ _ => rfl, Nat.le_succ _⟩
end
end Go.Pv

namespace Go.Proofs.Ytneglephfhiamaa
open Go.Pv
section
variable {N : List (List Int)} {U : List Int} {most : Int} {m : Nat}
theorem rsl_ok (w k : Nat) : (rsl w k).all cellOk = true := by simp [rsl, cellOk]
set_option maxHeartbeats 4000000 in
set_option maxRecDepth 20000 in
theorem fresh_no (h : U.length = N.length) (hk : N.length ≤ 100000000) (hf : ¬ (N.length : Int) < most) :
    FnX Try.prog 1 108 86 [.ptr 0 0] (CB m most (2 * m) N U) := by
  unfold CB cbx
  refine fnx_of (q := 1) Try.func86 rfl (by kernel_rfl) (by rw [Try.ntmps86]; exact Nat.le_add_left 1 _) ?_; rw [Try.ntmps86]; simp only [ancs, entA, List.length_cons, List.length_nil, List.cons_append, List.nil_append, Nat.reduceAdd, Nat.zero_add]
  have hh := h
  refine qm ?_
  refine hk_region fun K hK => runs_eval tab_ok ?_
  simp only [ev0, evA, evB, evP, fl, gp, tab, simprocAttr]
  refine fin_run trivial (hK _ ?_) <;> clear hK <;> clear K
  refine qa (qm (qm ?_))
  refine hk_draw mixed (by kernel_rfl) fun K hK => runs_eval tab_ok ?_
  simp only [ev0, evA, evB, evP, fl, gp, tab, simprocAttr]
  refine fin_run ?_ (hK _ ?_) <;> clear hK <;> clear K
  · (first | exact trivial | omega | (simp only [In64] at *; omega) | (simp [In64] at *; omega) | (simp_all; done) | skip)
  refine qa ?_
  refine hk_cond rfl (fun hC1 => ?_) (fun hC1 => ?_)
  · (try simp only [nhs] at hC1)
    refine hk_throw tab_ok rfl rfl rfl (show (15 : Nat) < 62 by decide) (show (16 : Nat) < 62 by decide) fun ch s' hch _ _ => ?_
    exact ⟨ch, rfl, hch⟩
  · (try simp only [nhs] at hC1)
    exact absurd hC1 (by simp; omega)
theorem ol_repl (k : Nat) (z : Int) : List.replicate k (AV.p (.int .i64 z)) = ol (List.replicate k z) := by simp [ol, il]
theorem set_repl {n i : Nat} (h : i < n) (a b : Int) : (List.replicate i a ++ List.replicate (n - i) b).set i a = List.replicate (i + 1) a ++ List.replicate (n - (i + 1)) b := by
  rw [List.set_append_right _ _ (by simp), List.length_replicate, Nat.sub_self, show n - i = (n - (i + 1)) + 1 by omega, List.replicate_succ, List.set_cons_zero, List.replicate_succ', List.append_assoc]; rfl
set_option maxHeartbeats 4000000 in
set_option maxRecDepth 20000 in
theorem fresh_ok (hm : 1 ≤ m ∧ m ≤ 6) (h : U.length = N.length) (hk : N.length ≤ 100000000) (hf : (N.length : Int) < most) :
    FnQ Try.prog 1 86 [.ptr 0 0] (CB m most (2 * m) N U) (.p (.int .i64 (N.length : Nat))) (CB m most (2 * m) (N ++ [nwR m]) (U ++ [(U.length : Int)])) := by
  obtain ⟨H1, hH1⟩ : ∃ H1, CB m most (2 * m) (N ++ [nwR m]) (U ++ [(U.length : Int)]) = H1 := ⟨_, rfl⟩
  rw [hH1]
  unfold CB cbx
  refine fnq_of (q := 1) tab_ok Try.func86 rfl (by kernel_rfl) (by rw [Try.ntmps86]; exact Nat.le_add_left 1 _) ?_; rw [Try.ntmps86]; simp only [ancs, entA, List.length_cons, List.length_nil, List.cons_append, List.nil_append, Nat.reduceAdd, Nat.zero_add]
  obtain ⟨k, hkN⟩ : ∃ k, N.length = k := ⟨_, rfl⟩
  have hAl : (N.map rwB ++ [.anc 0 0] : Heap).length = k + 1 := by simp [hkN]
  obtain ⟨A, hA⟩ : ∃ A, (N.map rwB ++ [.anc 0 0] : Heap) = A := ⟨_, rfl⟩
  rw [hA] at hAl
  rw [hA, h]
  rw [hkN] at h hk hf ⊢
  refine qm ?_
  refine hk_region fun K hK => runs_eval tab_ok ?_
  simp only [ev0, evA, evB, evP, fl, gp, tab, simprocAttr]
  refine fin_run trivial (hK _ ?_) <;> clear hK <;> clear K
  refine qa (qm (qm ?_))
  refine hk_draw mixed (by kernel_rfl) fun K hK => runs_eval tab_ok ?_
  simp only [ev0, evA, evB, evP, fl, gp, tab, simprocAttr]
  refine fin_run ?_ (hK _ ?_) <;> clear hK <;> clear K
  · (first | exact trivial | omega | (simp only [In64] at *; omega) | (simp [In64] at *; omega) | (simp_all; done) | skip)
  refine qa ?_
  refine hk_cond rfl (fun hC1 => ?_) (fun hC1 => ?_)
  · (try simp only [nhs] at hC1)
    exact absurd hC1 (by simp; omega)
  · (try simp only [nhs] at hC1)
    refine qh (qa (qm ?_))
    refine hk_region fun K hK => runs_eval tab_ok ?_
    simp only [ev0, evA, evB, evP, fl, gp, tab, simprocAttr, makeSliceA.eq_def, -List.reduceReplicate, hAl, List.length_append, (show (2 * (m : Int)).toNat = 2 * m by omega), ol_repl]
    refine fin_run ?_ (hK _ ?_) <;> clear hK <;> clear K
    · exact ⟨⟨by omega, by omega⟩, by omega, by omega, by omega, by omega⟩
    refine qa (qm (qm ?_))
    refine hk_region fun K hK => runs_eval tab_ok ?_
    simp only [ev0, evA, evB, evP, fl, gp, tab, simprocAttr]
    refine fin_run trivial (hK _ ?_) <;> clear hK <;> clear K
    refine qa (ql ?_)
    have hAs : ∀ L, k + 3 ≤ L → ∀ b ∈ A, hsc L b = true := fun L hL b hb => by
      rw [← hA] at hb
      rcases List.mem_append.1 hb with hb | hb
      · obtain ⟨f, _, rfl⟩ := List.mem_map.1 hb
        exact ol_sc _ _
      · simp only [List.mem_cons, List.not_mem_nil, or_false] at hb
        subst hb
        simp [hsc]; omega
    have hHl : ∀ R : List Int, (.own [.p (.int .i64 m), .sl 1 0 k, .sl 2 0 k, .p (.int .i64 most)] :: .own (rsl (2 * m) k) :: .own (ol U) :: (A ++ [.own (ol R)]) : Heap).length = k + 5 := fun R => by simp [hAl]
    have hHs : ∀ R : List Int, ∀ b ∈ (.own [.p (.int .i64 m), .sl 1 0 k, .sl 2 0 k, .p (.int .i64 most)] :: .own (rsl (2 * m) k) :: .own (ol U) :: (A ++ [.own (ol R)]) : Heap), hsc (.own [.p (.int .i64 m), .sl 1 0 k, .sl 2 0 k, .p (.int .i64 most)] :: .own (rsl (2 * m) k) :: .own (ol U) :: (A ++ [.own (ol R)]) : Heap).length b = true := fun R b hb => by
      rw [hHl]
      simp only [List.mem_cons, List.mem_append, List.not_mem_nil, or_false] at hb
      rcases hb with rfl | rfl | rfl | hb | rfl
      · simp [hsc, scA, sc1]
      · exact rsl_sc (by omega)
      · exact ol_sc _ _
      · exact hAs _ (by omega) b hb
      · exact ol_sc _ _
    have g0 : ∀ x : Blk, hget (A ++ [x]) (k + 1) = x := fun x => by
      have := hget_snoc A x
      rwa [hAl] at this
    have s0 : ∀ x y : Blk, hset (A ++ [x]) (k + 1) y = A ++ [y] := fun x y => by
      rw [hset_eq, List.set_append_right _ _ (by omega), hAl, Nat.sub_self]; rfl
    refine hk_loop (ι := Nat) (fun i => ⟨62, [(0, .ptr 0 0), (3, .sl (k + 1 + 1 + 1 + 1) 0 (2 * m)), (24, .p (.int .i64 (2 * m : Nat))), (25, .p (.int .i64 i))], .own [.p (.int .i64 m), .sl 1 0 k, .sl 2 0 k, .p (.int .i64 most)] :: .own (rsl (2 * m) k) :: .own (ol U) :: (A ++ [.own (ol (List.replicate i (-1) ++ List.replicate (2 * m - i) 0))])⟩) (fun i => i ≤ 2 * m) (fun i => 2 * m - i) 0 (Nat.zero_le _) _ (le_same rfl (by simp) (hHs _) (by
      rw [hHl]
      simp [St.get, lk, scA, sc1])) fun i hi => ?_
    refine qm ?_
    refine hk_region fun K hK => runs_eval tab_ok ?_
    simp only [ev0, evA, evB, evP, fl, gp, tab, simprocAttr]
    refine fin_run trivial (hK _ ?_) <;> clear hK <;> clear K
    refine qa (qm ?_)
    refine hk_cond rfl (fun hC2 => ?_) (fun hC2 => ?_)
    · (try simp only [nhs] at hC2)
      have hil : i < 2 * m := by omega
      refine qh (qa (qm (ql (qm ?_))))
      refine hk_region fun K hK => runs_eval tab_ok ?_
      simp only [ev0, evA, evB, evP, fl, gp, tab, simprocAttr]
      refine fin_run trivial (hK _ ?_) <;> clear hK <;> clear K
      refine qa ?_
      refine hk_region fun K hK => runs_eval tab_ok ?_
      simp only [ev0, evA, evB, evP, fl, gp, tab, simprocAttr, g0, s0, Int.toNat_natCast, ol_set, set_repl hil]
      refine fin_run ?_ (hK _ ?_) <;> clear hK <;> clear K
      · exact ⟨⟨by omega, by omega⟩, by simp; omega⟩
      refine qd (qa ?_)
      refine hk_region fun K hK => runs_eval tab_ok ?_
      simp only [ev0, evA, evB, evP, fl, gp, tab, simprocAttr]
      refine fin_run ?_ (hK _ ?_) <;> clear hK <;> clear K
      · (first | exact trivial | omega | (simp only [In64] at *; omega) | (simp [In64] at *; omega) | (simp_all; done) | skip)
      refine qa ?_
      refine ⟨i + 1, _, by omega, by omega, le_same rfl rfl (hHs _) (by
        rw [hHl]
        simp [St.get, lk, scA, sc1])⟩
    · (try simp only [nhs] at hC2)
      have hie : i = 2 * m := by omega
      subst hie
      rw [Nat.sub_self, List.replicate_zero, List.append_nil, show List.replicate (2 * m) (-1) = nwR m from rfl]
      have g1 : ∀ x y : Blk, hget (A ++ [x] ++ [y]) (k + 1 + 1) = y := fun x y => by
        have := hget_snoc (A ++ [x]) y
        rwa [List.length_append, hAl] at this
      have g2 : ∀ x y z : Blk, hget (A ++ [x] ++ [y] ++ [z]) (k + 1 + 2) = z := fun x y z => by
        have := hget_snoc (A ++ [x] ++ [y]) z
        rwa [List.length_append, List.length_append, hAl] at this
      have g3 : ∀ x y z t : Blk, hget (A ++ [x] ++ [y] ++ [z] ++ [t]) (k + 1 + 3) = t := fun x y z t => by
        have := hget_snoc (A ++ [x] ++ [y] ++ [z]) t
        rwa [List.length_append, List.length_append, List.length_append, hAl] at this
      have g4 : (rsl (2 * m) k).take k = rsl (2 * m) k := List.take_of_length_le (by rw [rsl_len]; exact Nat.le_refl _)
      refine qj (qc (qc (qf (qa (qm ?_)))))
      refine hk_region fun K hK => runs_eval tab_ok ?_
      simp only [ev0, evA, evB, evP, fl, gp, tab, simprocAttr, g1, g4, hAl, List.length_append]
      refine fin_stop ?_ (runs_op (build1a_does tab_ok rfl rfl rfl rfl rfl rfl rfl rfl) rfl (by simp only [dstOk, Nat.reduceLT]) (runs_eval tab_ok ?_))
      · (first | exact trivial | omega | (simp only [In64] at *; omega) | (simp [In64] at *; omega) | (simp_all; done) | skip)
      simp only [ev0, evA, evB, evP, fl, gp, tab, simprocAttr, g1, g4, hAl, List.length_append]
      refine fin_run ?_ (hK _ ?_) <;> clear hK <;> clear K
      · exact ⟨rsl_ok _ _, by rw [rsl_len]; exact Nat.le_refl _, by omega, by omega⟩
      refine qa (qm ?_)
      refine hk_draw mixed (by kernel_rfl) fun K hK => runs_eval tab_ok ?_
      simp only [ev0, evA, evB, evP, fl, gp, tab, simprocAttr, g1, g2, g3, hAl, List.length_append]
      refine fin_run ?_ (hK _ ?_) <;> clear hK <;> clear K
      · exact ⟨by omega, by omega, by omega⟩
      refine qa (qm ?_)
      refine hk_region fun K hK => runs_eval tab_ok ?_
      simp only [ev0, evA, evB, evP, fl, gp, tab, simprocAttr]
      refine fin_run ?_ (hK _ ?_) <;> clear hK <;> clear K
      · (first | exact trivial | omega | (simp only [In64] at *; omega) | (simp [In64] at *; omega) | (simp_all; done) | skip)
      refine qa (qk ?_)
      simp only [Try.results86, PostG, endG, rvsA, rvA, mkTup, ev0, evA, evB, evP, fl, gp, tab, simprocAttr]
      subst hA
      obtain ⟨π, hπ⟩ : ∃ π, π = 0 :: (k + 6) :: (k + 7) :: (List.range' 3 k ++ [k + 4, k + 3]) := ⟨_, rfl⟩
      have hpl : π.length = k + 5 := by rw [hπ]; simp
      have hp0 : π.getD 0 0 = 0 := by rw [hπ]; rfl
      have hp1 : π.getD 1 0 = k + 6 := by rw [hπ]; rfl
      have hp2 : π.getD 2 0 = k + 7 := by rw [hπ]; rfl
      have hp3 : ∀ i, i < k → π.getD (i + 3) 0 = i + 3 := fun i hi => by
        rw [hπ, List.getD_cons_succ, List.getD_cons_succ, List.getD_cons_succ, List.getD_eq_getElem?_getD, List.getElem?_append_left (by simpa using hi)]
        simp [List.getElem?_range' hi]; omega
      have hp4 : π.getD (k + 3) 0 = k + 4 := by
        rw [hπ, List.getD_cons_succ, List.getD_cons_succ, List.getD_cons_succ, List.getD_eq_getElem?_getD, List.getElem?_append_right (by simp)]
        simp
      have hU : il [(k : Int)] = [PV.int .i64 k] := rfl
      obtain ⟨H, hH⟩ : ∃ H : Heap, H = Blk.own [AV.p (.int .i64 m), AV.sl (k + 1 + 1 + 1 + 1 + 1 + 1) 0 (k + 1), AV.sl (k + 1 + 1 + 1 + 1 + 1 + 1 + 1) 0 (k + 1), AV.p (.int .i64 most)] :: Blk.dead :: Blk.dead ::
          (N.map rwB ++ [Blk.anc 0 0] ++ [Blk.own (ol (nwR m))] ++ [Blk.own [AV.sl (k + 1 + 1 + 1 + 1) 0 (2 * m)]] ++ [Blk.own (rsl (2 * m) k ++ [AV.sl (k + 1 + 1 + 1 + 1) 0 (2 * m)])] ++ [Blk.own (ol (U ++ [(k : Int)]))]) := ⟨_, rfl⟩
      refine ⟨π, ?_, rfl, rfl, ?_, ?_, trivial⟩
      · simp only [Go.Pv.ren, ren1]
        rw [show (((k + 1 : Nat) : Int) - 1) = (k : Int) by omega]
      · rw [hπ]
        refine List.nodup_cons.2 ⟨?_, List.nodup_cons.2 ⟨?_, List.nodup_cons.2 ⟨?_, ?_⟩⟩⟩
        · simp
        · simp [List.mem_range'_1]; omega
        · simp [List.mem_range'_1]; omega
        · rw [List.nodup_append]
          refine ⟨List.nodup_range' .., by simp, fun x hx y hy => ?_⟩
          rw [List.mem_range'_1] at hx
          simp only [List.mem_cons, List.not_mem_nil, or_false] at hy
          omega
      · show LeH π _ π (H1 ++ [Blk.anc 0 0])
        have e0 : ∀ (a b c : Blk) (T : Heap) (i : Nat), hget (a :: b :: c :: T) (i + 3) = hget T i := fun _ _ _ _ _ => rfl
        have f0 : hget H 0 = Blk.own [AV.p (.int .i64 m), AV.sl (k + 1 + 1 + 1 + 1 + 1 + 1) 0 (k + 1), AV.sl (k + 1 + 1 + 1 + 1 + 1 + 1 + 1) 0 (k + 1), AV.p (.int .i64 most)] := by rw [hH]; rfl
        have f1 : ∀ i, i < k → hget H (3 + i) = rwB (N.getD i []) := fun i hi => by
          rw [hH, Nat.add_comm 3 i, e0]
          simp only [List.append_assoc]
          exact hget_N (by omega)
        have f2 : hget H (k + 3) = .anc 0 0 := by
          rw [hH, e0]
          simp only [List.append_assoc]
          rw [hget_app2 (by simp [hkN]), N_len, hkN, Nat.sub_self]; rfl
        have f3 : hget H (k + 4) = rwB (nwR m) := by
          rw [hH, show k + 4 = k + 1 + 3 by omega, e0]
          simp only [List.append_assoc]
          rw [hget_app2 (by simp [hkN]), N_len, hkN, Nat.add_sub_cancel_left]; rfl
        have f4 : hget H (k + 6) = .own (rsl (2 * m) k ++ [AV.sl (k + 1 + 1 + 1 + 1) 0 (2 * m)]) := by
          rw [hH, show k + 6 = k + 3 + 3 by omega, e0]
          simp only [List.append_assoc]
          rw [hget_app2 (by simp [hkN]), N_len, hkN, Nat.add_sub_cancel_left]; rfl
        have f5 : hget H (k + 7) = .own (ol (U ++ [(k : Int)])) := by
          rw [hH, show k + 7 = k + 4 + 3 by omega, e0]
          simp only [List.append_assoc]
          rw [hget_app2 (by simp [hkN]), N_len, hkN, Nat.add_sub_cancel_left]; rfl
        have hb : H1 ++ [Blk.anc 0 0] = .own [.p (.int .i64 m), .sl 1 0 (k + 1), .sl 2 0 (k + 1), .p (.int .i64 most)] :: .own (rsl (2 * m) (k + 1)) :: .own (ol (U ++ [(k : Int)])) :: (N.map rwB ++ [rwB (nwR m), .anc 0 0]) := by
          rw [← hH1]
          unfold CB cbx
          simp [hkN, h]
        rw [hb]
        have hq1 : (rsl (2 * m) (k + 1)).map (Go.Pv.ren π) = rsl (2 * m) k ++ [AV.sl (k + 1 + 1 + 1 + 1) 0 (2 * m)] := by
          rw [← rsl_snoc, List.map_append]
          congr 1
          · refine List.ext_getElem (by simp) fun i h1 h2 => ?_
            have hi : i < k := by simpa [rsl_len] using h2
            simp only [rsl, List.getElem_map, List.getElem_range, Go.Pv.ren, ren1, hp3 i hi]
          · simp only [List.map_cons, List.map_nil, Go.Pv.ren, ren1, hp4]
        have goal : LeH π H (0 :: (k + 6) :: (k + 7) :: (List.range' 3 k ++ [k + 4, k + 3])) (.own [.p (.int .i64 m), .sl 1 0 (k + 1), .sl 2 0 (k + 1), .p (.int .i64 most)] :: .own (rsl (2 * m) (k + 1)) :: .own (ol (U ++ [(k : Int)])) :: (N.map rwB ++ [rwB (nwR m), .anc 0 0])) := by
          refine ⟨?_, ?_, leB_ol f5, leH_app ?_ ⟨leB_ol f3, ?_, trivial⟩⟩
          · simp only [LeB, f0, List.map_cons, List.map_nil, Go.Pv.ren, ren1, hp1, hp2]
            refine ⟨rfl, ?_⟩
            simp [scA, sc1, hpl]
          · simp only [LeB, f4, hq1]
            refine ⟨by rw [List.take_of_length_le (by simp [rsl_len])], rsl_sc (by omega)⟩
          · have := leH_seg (π := π) (H := H) (B := N.map rwB) (a := 3) (fun i hi => by
              rw [N_len, hkN] at hi
              rw [f1 i hi]
              have := hget_N (N := N) (X := []) (i := i) (by omega)
              rw [List.append_nil] at this
              rw [this]) fun b hb => by
              obtain ⟨f, _, rfl⟩ := List.mem_map.1 hb
              exact leB_ol rfl
            rwa [N_len, hkN] at this
          · simp only [LeB, f2, hp0]
            exact ⟨trivial, by omega⟩
        rw [← hπ, hH] at goal
        have hUt : U.take k = U := List.take_of_length_le (by omega)
        simpa [hUt] using goal
end
end Go.Proofs.Ytneglephfhiamaa

namespace Go.Pv
open Go.RowKit
section
variable {P : Program} {s : St}
theorem kills_hget : ∀ (ks : List Nat) (H : Heap) (j : Nat), (∀ k ∈ ks, k ≠ j) → hget (kills H ks) j = hget H j
  | [], H, j, _ => rfl
  | k :: ks, H, j, h => by
    rw [kills, kills_hget ks _ j fun x hx => h x (by simp [hx]), hset_hget, if_neg (fun e => h k (by simp) e.1.symm)]
def q1H (H0 X H1 : Heap) : Heap := putM (kills (H0 ++ X) ((List.range H0.length).drop 1)) ((List.range H0.length).take 1) (H1.map (Blk.ren ((List.range H0.length).take 1 ++ List.range' (H0 ++ X).length (H1.length - 1))))
theorem q1_eq {H0 X : Heap} {b1 : Blk} {R1 : Heap} (h0 : 0 < H0.length) : q1H H0 X (b1 :: R1) = hset (kills (H0 ++ X) ((List.range H0.length).drop 1)) 0 (Blk.ren (0 :: List.range' (H0.length + X.length) R1.length) b1) ++ R1.map (Blk.ren (0 :: List.range' (H0.length + X.length) R1.length)) := by
  obtain ⟨k, hk⟩ : ∃ k, H0.length = k + 1 := ⟨H0.length - 1, by omega⟩
  have e1 : (List.range H0.length).take 1 = [0] := by
    rw [hk, List.range_succ_eq_map]; rfl
  unfold q1H
  rw [e1]
  simp only [List.length_append, List.length_cons, Nat.add_sub_cancel, List.map_cons, putM, List.cons_append, List.nil_append]
theorem q1_0 {H0 X : Heap} {b1 : Blk} {R1 : Heap} (h0 : 0 < H0.length) : hget (q1H H0 X (b1 :: R1)) 0 = Blk.ren (0 :: List.range' (H0.length + X.length) R1.length) b1 := by
  rw [q1_eq h0, hget_app1 (by rw [hset_length, kills_length]; simp; omega), hset_hget, if_pos ⟨rfl, by rw [kills_length]; simp; omega⟩]
theorem q1_X {H0 X : Heap} {b1 : Blk} {R1 : Heap} (h0 : 0 < H0.length) {i : Nat} (hi : i < X.length) : hget (q1H H0 X (b1 :: R1)) (H0.length + i) = hget X i := by
  rw [q1_eq h0, hget_app1 (by rw [hset_length, kills_length]; simp; omega), hset_hget, if_neg (by omega), kills_hget _ _ _ (fun k hk => by
    have := List.mem_range.1 (List.mem_of_mem_drop hk)
    omega), hget_app2 (by omega), Nat.add_sub_cancel_left]
theorem q1_N {H0 X : Heap} {b1 : Blk} {R1 : Heap} (h0 : 0 < H0.length) {i : Nat} : hget (q1H H0 X (b1 :: R1)) (H0.length + X.length + i) = hget (R1.map (Blk.ren (0 :: List.range' (H0.length + X.length) R1.length))) i := by
  rw [q1_eq h0, hget_app2 (by rw [hset_length, kills_length]; simp), hset_length, kills_length, List.length_append, Nat.add_sub_cancel_left]
def q1P (a x r : Nat) : List Nat := (0 :: List.range' (a + x) r) ++ List.range' a x
theorem ren1_agree {π ρ : List Nat} {L : Nat} (h : ∀ i, i < L → π.getD i 0 = ρ.getD i 0) {x : AV} (hx : sc1 L x = true) : ren1 π x = ren1 ρ x := by
  cases x with
  | sl k lo len => simp only [ren1, h k (by simpa [sc1] using hx)]
  | ptr k i => simp only [ren1, h k (by simpa [sc1] using hx)]
  | mptr k => simp only [ren1, h k (by simpa [sc1] using hx)]
  | sls k lo len sz => simp only [ren1, h k (by simpa [sc1] using hx)]
  | _ => rfl
theorem ren_agree {π ρ : List Nat} {L : Nat} (h : ∀ i, i < L → π.getD i 0 = ρ.getD i 0) {x : AV} (hx : scA L x = true) : Go.Pv.ren π x = Go.Pv.ren ρ x := by
  cases x with
  | agg l => simp only [Go.Pv.ren]; congr 1; exact List.map_congr_left fun y hy => ren1_agree h ((List.all_eq_true.1 hx) y hy)
  | tup l => simp only [Go.Pv.ren]; congr 1; exact List.map_congr_left fun y hy => ren1_agree h ((List.all_eq_true.1 hx) y hy)
  | cl f l => simp only [Go.Pv.ren]; congr 1; exact List.map_congr_left fun y hy => ren1_agree h ((List.all_eq_true.1 hx) y hy)
  | yv k l vs =>
    simp only [scA, Bool.and_eq_true, decide_eq_true_eq] at hx
    simp only [Go.Pv.ren, h _ hx.1]
    congr 1
    exact List.map_congr_left fun y hy => ren1_agree h ((List.all_eq_true.1 hx.2) y hy)
  | dead => rfl
  | p v => rfl
  | itv r => rfl
  | sl k lo len => exact ren1_agree h (x := .sl k lo len) hx
  | ptr k i => exact ren1_agree h (x := .ptr k i) hx
  | mptr k => exact ren1_agree h (x := .mptr k) hx
  | sls k lo len sz => exact ren1_agree h (x := .sls k lo len sz) hx
theorem leB_ren {π ρ : List Nat} {H : Heap} {k L : Nat} {b : Blk} (hp : ∀ i, i < L → π.getD i 0 = ρ.getD i 0) (hl : L ≤ π.length) (hb : hsc L b = true) (hn : notAnc b = true) (h : hget H k = Blk.ren ρ b) : LeB π H k b := by
  cases b with
  | own c =>
    simp only [LeB, h, Blk.ren]
    have h1 : c.map (Go.Pv.ren π) = c.map (Go.Pv.ren ρ) := List.map_congr_left fun x hx => ren_agree hp ((List.all_eq_true.1 hb) x hx)
    refine ⟨by rw [h1, List.take_of_length_le (by simp)], ?_⟩
    exact List.all_eq_true.2 fun x hx => scA_mn hl ((List.all_eq_true.1 hb) x hx)
  | anc i j => cases hn
  | dead => trivial
  | _ => simp only [LeB, h, Blk.ren]
theorem le_q1 {S s : St} {H0 X X' H1 : Heap} {b1 : Blk} {R1 : Heap} (h0 : 0 < H0.length) (h1 : H1 = b1 :: R1) (hn : S.n = s.n) (hS : S.H = H1 ++ X') (hs : s.H = q1H H0 X H1) (hXX : X'.length = X.length) (hsc1 : H1.all (hsc H1.length) = true) (hna : H1.all notAnc = true)
    (hX : ∀ i, i < X.length → ∀ H, hget H (H0.length + i) = hget X i → LeB (q1P H0.length X.length R1.length) H (H0.length + i) (hget X' i)) (hsl : LeS (q1P H0.length X.length R1.length) S.sl s) : Le (q1P H0.length X.length R1.length) S s := by
  subst h1
  have hl1 : (b1 :: R1).length = R1.length + 1 := rfl
  have hpl : (q1P H0.length X.length R1.length).length = R1.length + 1 + X.length := by unfold q1P; simp; omega
  have hag : ∀ i, i < R1.length + 1 → (q1P H0.length X.length R1.length).getD i 0 = (0 :: List.range' (H0.length + X.length) R1.length).getD i 0 := fun i hi => by
    unfold q1P
    rw [List.getD_eq_getElem?_getD, List.getElem?_append_left (by simpa using hi), List.getD_eq_getElem?_getD]
  refine ⟨hn, ?_, ?_, hsl⟩
  · unfold q1P
    rw [List.nodup_append]
    refine ⟨List.nodup_cons.2 ⟨?_, List.nodup_range' ..⟩, List.nodup_range' .., ?_⟩
    · rw [List.mem_range'_1]; omega
    · intro x hx y hy
      rw [List.mem_range'_1] at hy
      simp only [List.mem_cons, List.mem_range'_1] at hx
      omega
  · rw [hS]
    have e : LeH (q1P H0.length X.length R1.length) s.H ((0 :: List.range' (H0.length + X.length) R1.length) ++ List.range' H0.length X.length) ((b1 :: R1) ++ X') := by
      refine Go.Proofs.Ytneglephfhiamaa.leH_app ⟨?_, Go.Proofs.Ytneglephfhiamaa.leH_at (by simp) fun i hi => ?_⟩ (Go.Proofs.Ytneglephfhiamaa.leH_at (by simp [hXX]) fun i hi => ?_)
      · refine leB_ren (L := R1.length + 1) hag (by rw [hpl]; omega) ?_ ?_ (by rw [hs]; exact q1_0 h0)
        · exact (List.all_eq_true.1 hsc1) b1 (by simp)
        · exact (List.all_eq_true.1 hna) b1 (by simp)
      · have e1 : (List.range' (H0.length + X.length) R1.length).getD i 0 = H0.length + X.length + i := by simp [List.getD, List.getElem?_range' hi]
        have hm : hget R1 i ∈ R1 := by rw [hget_eq, List.getD_eq_getElem?_getD, List.getElem?_eq_getElem hi]; exact List.getElem_mem hi
        rw [e1]
        refine leB_ren (L := R1.length + 1) hag (by rw [hpl]; omega) ?_ ?_ ?_
        · exact (List.all_eq_true.1 hsc1) _ (by simp [hm])
        · exact (List.all_eq_true.1 hna) _ (by simp [hm])
        · rw [hs, q1_N h0]
          simp [hget_eq, List.getD, List.getElem?_map, List.getElem?_eq_getElem hi]
      · rw [hXX] at hi
        have e1 : (List.range' H0.length X.length).getD i 0 = H0.length + i := by simp [List.getD, List.getElem?_range' hi]
        rw [e1]
        exact hX i hi s.H (by rw [hs]; exact q1_X h0 hi)
    exact e
theorem runs_callQ1 {all : Array Oper} {rest : List Oper} {K : St → Prop} {dst : Option Tmp} {ty : TypeId} {pos : String} {aft : Array Edge} {gd : Option (Nat × Bool)} {fo : Operand} {args : Array Operand} {ts : Array TypeId} {g : FuncId} {avs : List AV} {H0 H1 X : Heap} {r : PV}
    (hc : FnQ P 1 g avs H0 (.p r) H1) {cap : List AV} (hfo : clA (s.ev fo) = some (g, cap)) (hg : guardA all s { dst := dst, op := .call { callee := .value fo, args := args, argTypes := ts }, type := ty, pos := pos, after := aft, guard := gd } = some true)
    (hH : s.H = H0 ++ X) (hargs : args.toList.map s.ev ++ cap = avs) (ha : avs.all (scA H0.length) = true) (hs : H0.all (hsc H0.length) = true) (hsc : scQ 1 (.p r) H0 H1 = true) (hd : dstOk s dst)
    (h : Runs P false all rest K (({ s with H := q1H H0 X H1 } : St).put dst (.p r))) :
    Runs P false all ({ dst := dst, op := .call { callee := .value fo, args := args, argTypes := ts }, type := ty, pos := pos, after := aft, guard := gd } :: rest) K s := by
  have hargN : ∀ (l : List AV), l.all (scA H0.length) = true → argsN (List.range H0.length) l l := by
    intro l
    induction l with
    | nil => intro _; trivial
    | cons x r ih =>
      intro hl
      rw [List.all_cons, Bool.and_eq_true] at hl
      refine ⟨?_, ih hl.2⟩
      cases x with
      | p v => rfl
      | _ => exact ⟨(ren_id hl.1).symm, by rw [List.length_range]; exact hl.1⟩
  refine runs_callQ (List.range H0.length) hc hfo hg (by rw [hargs]; exact argsN_M (hargN _ ha)) (by rw [hH]; exact leH_pre fun b hb => (List.all_eq_true.1 hs) b hb) List.nodup_range (by
    rw [List.all_eq_true]
    intro k hk
    have := List.mem_range.1 hk
    simp only [decide_eq_true_eq, hH, List.length_append]; omega) hsc hd ?_
  rw [hH]
  exact h
theorem callX1 {o : Oper} {fo : Operand} {args : Array Operand} {ts : Array TypeId} (ho : o.op = .call { callee := .value fo, args := args, argTypes := ts }) {t : TypeId} {q : Nat} {g : FuncId} {avs : List AV} {H0 X : Heap} (hc : FnX P q t g avs H0) {cap : List AV} (hfo : clA (s.ev fo) = some (g, cap))
    (hH : s.H = H0 ++ X) (hargs : args.toList.map s.ev ++ cap = avs) (ha : avs.all (scA H0.length) = true) (hs : H0.all (hsc H0.length) = true) (hq : q ≤ H0.length) (hna : H0.all notAnc = true) (hsp : H0.all (fun b => !b.spc) = true) : Throws P t o s (kills (H0 ++ X) (List.range H0.length)) := by
  have hargN : ∀ (l : List AV), l.all (scA H0.length) = true → argsN (List.range H0.length) l l := by
    intro l
    induction l with
    | nil => intro _; trivial
    | cons x r ih =>
      intro hl
      rw [List.all_cons, Bool.and_eq_true] at hl
      refine ⟨?_, ih hl.2⟩
      cases x with
      | p v => rfl
      | _ => exact ⟨(ren_id hl.1).symm, by rw [List.length_range]; exact hl.1⟩
  rw [← hH]
  exact call_throws ho hfo hc (by rw [hargs]; exact argsN_M (hargN _ ha)) (by rw [hH]; exact leH_pre fun b hb => (List.all_eq_true.1 hs) b hb) List.nodup_range (by
    rw [List.all_eq_true]
    intro k hk
    have := List.mem_range.1 hk
    simp only [decide_eq_true_eq, hH, List.length_append]; omega) hq hna hsp
theorem hk_joinR {x y : Code} {Q Q2 : Exit → St → Prop} (S : St) (h1 : Holds P x (fun e s' => e = .normal ∧ ∃ π, Le π S s') s) (h2 : Thn (Holds P y Q2) Q .normal S) : Holds P x (Thn (Holds P y Q2) Q) s := by
  refine hk_mono (fun e s' h => ?_) h1
  obtain ⟨rfl, π, h⟩ := h
  exact hk_le π h h2
end
end Go.Pv
