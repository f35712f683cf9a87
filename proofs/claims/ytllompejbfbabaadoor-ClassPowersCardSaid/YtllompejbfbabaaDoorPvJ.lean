/-
  append; literals. Conditions: none; a library text.
-/
import Derived.Test.YtllompejbfbabaaDoorPvI
set_option linter.all false
namespace Go.Pv
open Go.RowKit

section
variable {P : Program} {T : TypeId → Option TI} (hT : ∀ t ti, T t = some ti → tiOf P t = some ti) {C : Ctx} {m : Map} {s : St} {a : Act} {w w' : World}

/-- What is appended: so many cells, which are read whatever has been drawn. -/
def Src (P : Program) (w : World) (x : Value) (news : List Value) : Prop :=
  (∃ ax cx, x = .slice ax news.length cx) ∧ ∀ w2 : World, w2.heap = w.heap → (Builtin.firstCells 1 news.length x).run P w2 = .ok news.toArray w2

theorem src_some {w : World} {b : Addr} {cx : Nat} {news : List Value} (h : ∀ j u, news[j]? = some u → w.cell? (b.add j) = some u) : Src P w (.slice (some b) news.length cx) news := by
  refine ⟨⟨_, _, rfl⟩, fun w2 h2 => ?_⟩
  exact run_firstCells_some (P := P) w2 1 news.length b news.length cx news (by simp) (fun j u hj => by
    have := h j u hj
    unfold World.cell? at this ⊢
    rw [h2]; exact this)

theorem src_nil {w : World} {ax : Option Addr} {cx : Nat} : Src P w (.slice ax 0 cx) [] := by
  refine ⟨⟨_, _, rfl⟩, fun w2 h2 => ?_⟩
  cases ax with
  | none => rfl
  | some b => exact run_firstCells_some (P := P) w2 1 0 b 0 cx [] rfl (by simp)

theorem flat_all_one {l : List PV} (h : l.all PV.one = true) : flat l = l := flat_one l (fun x hx => (List.all_eq_true.1 h) x hx)

/-- What stands in a slice. -/
theorem elems_val (R : Rel C m s a.tmps w) {x : Operand} {p : Prop} {xs : List AV} (h : elemsA s.H (s.ev x) = some (p, xs)) (hp : p) :
    ∃ news, Src P w (a.eval x) news ∧ news.length = xs.length ∧ ∀ j (hj : j < xs.length), AVal (Reads (OK C m s.H w) w) m s.H xs[j] (news.getD j undef) := by
  have hx := R.ev x
  generalize s.ev x = ax at h hx
  generalize a.eval x = v at hx
  have lst : ∀ (l : List PV) (b off : Nat) (vs : Nat → Value) (cap : Nat), l.all PV.one = true → (∀ c, c < (flat l).length → w.cell? ⟨b, off + c, none⟩ = some (vs c)) → (∀ c (h : c < (flat l).length), Reads (OK C m s.H w) w (flat l)[c] (vs c)) →
      ∃ news, Src P w (.slice (some ⟨b, off, none⟩) l.length cap) news ∧ news.length = (l.map AV.p).length ∧ ∀ j (hj : j < (l.map AV.p).length), AVal (Reads (OK C m s.H w) w) m s.H (l.map AV.p)[j] (news.getD j undef) := by
    intro l b off vs cap h1 hc hr
    have hf := flat_all_one h1
    simp only [hf] at hc hr
    have hl : ((List.range l.length).map vs).length = l.length := by simp
    refine ⟨(List.range l.length).map vs, ?_, by simp, fun j hj => ?_⟩
    · have := src_some (P := P) (w := w) (b := ⟨b, off, none⟩) (cx := cap) (news := (List.range l.length).map vs) (fun j u hj => by
        have hjl : j < l.length := by have := (List.getElem?_eq_some_iff.1 hj).1; simpa using this
        simp only [List.getElem?_map, List.getElem?_range hjl, Option.map_some, Option.some.injEq] at hj
        subst hj
        rw [add_lit]; exact hc j hjl)
      rwa [hl] at this
    · simp only [List.length_map] at hj
      simp only [List.getElem_map]
      have e : ((List.range l.length).map vs).getD j undef = vs j := by simp [List.getD, List.getElem?_map, List.getElem?_range hj]
      rw [e]
      exact .p _ _ (hr j hj)
  unfold elemsA at h
  split at h
  · rename_i k lo len
    cases hx with
    | sl _ _ _ _ hk' hs =>
      split at h <;> simp only [Option.some.injEq, Prod.mk.injEq, reduceCtorEq] at h
      · rename_i c hg
        obtain ⟨rfl, rfl⟩ := h
        have hlen : ((c.drop lo).take len).length = len := by simp only [List.length_take, List.length_drop]; omega
        rcases hs with ⟨rfl, ad, rfl⟩ | ⟨l, cap, hm, rfl, hc1, hc2⟩
        · exact ⟨[], src_nil, by simp, fun j hj => by simp at hj⟩
        · rcases R.blk k c (hget_mut hg) with ⟨_, hn⟩ | ⟨l', cur, e, hm2, hB, hh, hs1, hs3, hs2, hcells⟩
          · rw [hm] at hn; cases hn
          · rw [hm] at hm2; cases hm2
            refine ⟨(List.range len).map fun j => cur.getD (l.o + lo + j) undef, ?_, by simp [hlen], fun j hj => ?_⟩
            · have := src_some (P := P) (w := w) (b := ⟨l.g, l.o + lo, none⟩) (cx := cap) (news := (List.range len).map fun j => cur.getD (l.o + lo + j) undef) (fun j u hj => by
                have hjl : j < len := by have := (List.getElem?_eq_some_iff.1 hj).1; simpa using this
                simp only [List.getElem?_map, List.getElem?_range hjl, Option.map_some, Option.some.injEq] at hj
                subst hj
                rw [add_lit]; exact cell_of hh (by omega))
              simpa using this
            · rw [hlen] at hj
              simp only [List.getElem_take, List.getElem_drop]
              have e : ((List.range len).map fun j => cur.getD (l.o + lo + j) undef).getD j undef = cur.getD (l.o + (lo + j)) undef := by
                simp [List.getD, List.getElem?_map, List.getElem?_range hj, Nat.add_assoc]
              rw [e]
              exact hcells (lo + j) (by omega)
      · rename_i c hg
        obtain ⟨rfl, rfl⟩ := h
        have hlen : ((c.drop lo).take len).length = len := by simp only [List.length_take, List.length_drop]; omega
        rcases hs with ⟨rfl, ad, rfl⟩ | ⟨l, cap, hm, rfl, hc1, hc2⟩
        · exact ⟨[], src_nil, by simp, fun j hj => by simp at hj⟩
        · rcases R.fro k c (hget_fro hg) with ⟨_, hn⟩ | ⟨l', vs, hm2, hB, hl, hcells⟩
          · rw [hm] at hn; cases hn
          · rw [hm] at hm2; cases hm2
            refine ⟨(List.range len).map fun j => vs (lo + j), ?_, by rw [List.length_map, List.length_range, List.length_map, hlen], fun j hj => ?_⟩
            · have := src_some (P := P) (w := w) (b := ⟨l.g, l.o + lo, none⟩) (cx := cap) (news := (List.range len).map fun j => vs (lo + j)) (fun j u hj => by
                have hjl : j < len := by have := (List.getElem?_eq_some_iff.1 hj).1; simpa using this
                simp only [List.getElem?_map, List.getElem?_range hjl, Option.map_some, Option.some.injEq] at hj
                subst hj
                rw [add_lit, Nat.add_assoc]; exact (hcells (lo + j) (by omega)).1)
              simpa using this
            · simp only [List.length_map, hlen] at hj
              simp only [List.getElem_map, List.getElem_take, List.getElem_drop]
              have e : ((List.range len).map fun j => vs (lo + j)).getD j undef = vs (lo + j) := by
                simp [List.getD, List.getElem?_map, List.getElem?_range hj]
              rw [e]
              exact .p _ _ (hcells (lo + j) (by omega)).2
  · rename_i l
    simp only [Option.some.injEq, Prod.mk.injEq] at h
    obtain ⟨rfl, rfl⟩ := h
    rcases hx.p_inv.list_inv with ⟨rfl, ad, cap, rfl⟩ | ⟨b, off, cap, sz, vs, rfl, hb, hsz, hcap, hc, hr⟩
    · exact ⟨[], src_nil, rfl, fun j hj => by simp at hj⟩
    · exact lst l b off vs cap hp hc hr
  · rename_i l
    simp only [Option.some.injEq, Prod.mk.injEq] at h
    obtain ⟨rfl, rfl⟩ := h
    rcases hx.p_inv.nn_inv with ⟨rfl, ad, rfl⟩ | ⟨b, off, sz, vs, rfl, hb, hsz, hc, hr⟩
    · exact ⟨[], src_nil, rfl, fun j hj => by simp at hj⟩
    · exact lst l b off vs _ hp hc hr
  · simp only [Option.some.injEq, Prod.mk.injEq] at h
    obtain ⟨rfl, rfl⟩ := h
    rw [hx.p_inv.nil_inv]
    exact ⟨[], src_nil, rfl, fun j hj => by simp at hj⟩
  · cases h

/-- There is room. -/
theorem append_room {t e : TypeId} {i : TypeInfo} (ty : TypeId) (ht : P.underlying t = some (.slice e)) (hi : P.info? e = some i) (hsz : i.size = 1) {g q n cap : Nat} {cur : Array Value} {e' : TypeId} (hg : w.heap[g]? = some (.cells cur e' (0, 0)))
    {x : Value} {news : List Value} (hx : Src P w x news) (h1 : ∀ u ∈ news, u.oneCell' = true) (hroom : n + news.length ≤ cap) (hfit : q + cap ≤ cur.size) :
    (Builtin.append_ #[t, t] ty #[.slice (some ⟨g, q, none⟩) n cap, x]).run P w =
      .ok (.slice (some ⟨g, q, none⟩) (n + news.length) cap) (w.setRow g (cur.toList.take (q + n) ++ news ++ cur.toList.drop (q + n + news.length)).toArray) := by
  obtain ⟨⟨ax, cx, rfl⟩, hf⟩ := hx
  have hf := hf w rfl
  have hst := run_storeCells_at P g (q + n) e' news 0 cur w hg (by omega) h1
  simp only [Nat.add_zero] at hst
  simp [Builtin.append_, run_underlying ht, sizeOf, typeInfo, hi, hsz, Builtin.lenOf, hroom, hf, Addr.add_lit, hst]

/-- Nothing is appended. -/
theorem append_nothing {t e : TypeId} {i : TypeInfo} (ty : TypeId) (ht : P.underlying t = some (.slice e)) (hi : P.info? e = some i) (hsz : i.size = 1) {ad : Option Addr} {n cap : Nat}
    {x : Value} (hx : Src P w x []) (hn : n ≤ cap) : (Builtin.append_ #[t, t] ty #[.slice ad n cap, x]).run P w = .ok (.slice ad n cap) w := by
  obtain ⟨⟨ax, cx, rfl⟩, hf⟩ := hx
  have hf := hf w rfl
  simp only [List.length_nil] at hf
  cases ad <;> simp [Builtin.append_, run_underlying ht, sizeOf, typeInfo, hi, hsz, Builtin.lenOf, hn, hf, storeCells]

/-- There is none: a new row. -/
theorem append_new {t e : TypeId} {i : TypeInfo} {z : Value} (ty : TypeId) (ht : P.underlying t = some (.slice e)) (hi : P.info? e = some i) (hz : i.zero = some z) (hsz : i.size = 1) {sv : Value} {ad : Option Addr} {n cap : Nat} {olds : List Value} (hsv : sv = .slice ad n cap)
    (hs : Src P w sv olds) (hn : n = olds.length) {x : Value} {news : List Value} (hx : Src P w x news) (hroom : cap < n + news.length) (h63 : n + news.length ≤ 9223372036854775807) (h47 : (n + news.length) * i.bytes ≤ 140737488355328) :
    (Builtin.append_ #[t, t] ty #[sv, x]).run P w =
      .ok (.slice (some ⟨w.heap.size, 0, none⟩) (n + news.length) (grownCap w (n + news.length) cap e))
        (w.drew.alloc (.cells (olds.toArray ++ news.toArray ++ Builtin.zeroCells z.cells (grownCap w (n + news.length) cap e - (n + news.length))) e)) := by
  obtain ⟨⟨ax, cx, rfl⟩, hf⟩ := hx
  have hf := hf w.drew rfl
  have hfo := hs.2 w.drew rfl
  subst hsv
  subst hn
  have hnr : ¬ (olds.length + news.length ≤ cap) := by omega
  have h63' : ¬ (9223372036854775807 < ((olds.length : Int) + (news.length : Int))) := by omega
  have hfit := growslice_fits (need := olds.length + news.length) (old := cap) (bytes := i.bytes) hroom h47
  have h48' : ¬ (281474976710656 < Builtin.nextslicecap (olds.length + news.length) cap * i.bytes) := by omega
  simp [Builtin.append_, run_underlying ht, sizeOf, typeInfo, zeroValue, hi, hz, hsz, Builtin.lenOf, hnr, h63', h48', Question.forced, hf, hfo, newRow, grownCap]
  have e : (olds ++ news).toArray = olds.toArray ++ news.toArray := by simp
  rw [e, Array.append_assoc]

theorem getD_new {xs ys zs : List Value} {j : Nat} (h : j < xs.length + ys.length) : ((xs.toArray ++ ys.toArray ++ zs.toArray).getD j undef) = if j < xs.length then xs.getD j undef else ys.getD (j - xs.length) undef := by
  have e : xs.toArray ++ ys.toArray ++ zs.toArray = (xs ++ ys ++ zs).toArray := by simp
  rw [e, getD_parts]
  by_cases h1 : j < xs.length
  · rw [if_pos h1, if_pos h1]
  · rw [if_neg h1, if_neg h1, if_pos h]

theorem below_drew_alloc (o : Obj) : Below w.heap.size w (w.drew.alloc o) := ((Below.refl w.heap.size w).drew).alloc (by simp) o

include hT in
theorem appendA_does (R : Rel C m s a.tmps w) {o : Oper} {t : TypeId} {x y : Operand} (ho : o.op = .call { callee := .builtin .append, args := #[x, y], argTypes := #[t, t] }) {ti : TI} (ht : T t = some ti) {r : OV} (h : appendA T ti s.H (s.ev x) (s.ev y) = some r) (hvc : r.vc) :
    ∃ v w' m', Yields P o a w v w' ∧ Rel C m' { s with H := r.H } a.tmps w' ∧ AVal (Reads (OK C m' r.H w') w') m' r.H r.av v := by
  obtain ⟨dst, op, type, pos, after, guard⟩ := o
  simp only at ho
  subst ho
  unfold appendA at h
  split at h
  · rename_i e hk
    have hu := ti_slice (hT _ _ ht) hk
    split at h
    · rename_i te hte
      obtain ⟨i, d, z, h1, h2, h3, h4, h5, h6, h7, h8⟩ := tiOf_parts (hT _ _ hte)
      split at h
      · rename_i vx xs hxs
        have run : ∀ v w', (Builtin.append_ #[t, t] type #[a.eval x, a.eval y]).run P w = .ok v w' → Yields P { dst := dst, op := .call { callee := .builtin .append, args := #[x, y], argTypes := #[t, t] }, type := type, pos := pos, after := after, guard := guard } a w v w' := by
          intro v w' hr
          left
          simp [BigFrame.execOp_builtin, BigFrame.builtin_append, hr]
        -- a new row, in any case
        have fresh : ∀ (olds news : List Value) (os : List AV) (ad : Option Addr) (cap : Nat), te.size = 1 → te.zero.length = 1 → a.eval x = .slice ad olds.length cap → Src P w (a.eval x) olds → olds.length = os.length → (∀ j (hj : j < os.length), AVal (Reads (OK C m s.H w) w) m s.H os[j] (olds.getD j undef)) →
            Src P w (a.eval y) news → news.length = xs.length → (∀ j (hj : j < xs.length), AVal (Reads (OK C m s.H w) w) m s.H xs[j] (news.getD j undef)) → cap < olds.length + news.length → (olds.length + news.length) * te.bytes ≤ 140737488355328 → olds.length + news.length ≤ 9223372036854775807 →
            ∃ cur, Yields P { dst := dst, op := .call { callee := .builtin .append, args := #[x, y], argTypes := #[t, t] }, type := type, pos := pos, after := after, guard := guard } a w (.slice (some ⟨w.heap.size, 0, none⟩) (olds.length + news.length) (grownCap w (olds.length + news.length) cap e)) (w.drew.alloc (.cells cur e)) ∧
              cur.size = grownCap w (olds.length + news.length) cap e ∧ cur.size ≤ maxLen ∧ (os ++ xs).length ≤ cur.size ∧ ∀ j (hj : j < (os ++ xs).length), AVal (Reads (OK C m s.H w) w) m s.H (os ++ xs)[j] (cur.getD j undef) := by
          intro olds news os ad cap hsz hzl hv hs hol ho hn hnl hnv hroom hb h63
          have hz1 : z.cells.size = 1 := by rw [← Array.length_toList, h6]; exact hzl
          have hr := append_new (P := P) (w := w) type hu h1 h3 (by rw [h4, hsz]) hv hs rfl hn hroom h63 (by rw [h5]; exact hb)
          have hge := grownCap_ge w (olds.length + news.length) cap e
          have hle := grownCap_le_maxLen w (olds.length + news.length) cap e (by unfold maxLen; omega)
          have hcs : (olds.toArray ++ news.toArray ++ Builtin.zeroCells z.cells (grownCap w (olds.length + news.length) cap e - (olds.length + news.length))).size = grownCap w (olds.length + news.length) cap e := by
            simp only [Array.size_append, List.size_toArray, size_zeroCells, hz1, Nat.mul_one]; omega
          refine ⟨_, run _ _ hr, hcs, by rw [hcs]; exact hle, by rw [hcs]; simp only [List.length_append]; omega, fun j hj => ?_⟩
          simp only [List.length_append] at hj
          have eg : (olds.toArray ++ news.toArray ++ Builtin.zeroCells z.cells (grownCap w (olds.length + news.length) cap e - (olds.length + news.length))).getD j undef = if j < olds.length then olds.getD j undef else news.getD (j - olds.length) undef := by
            have := getD_new (xs := olds) (ys := news) (zs := (Builtin.zeroCells z.cells (grownCap w (olds.length + news.length) cap e - (olds.length + news.length))).toList) (j := j) (by omega)
            rwa [Array.toArray_toList] at this
          rw [eg]
          by_cases hjo : j < os.length
          · rw [if_pos (by omega), List.getElem_append_left hjo]; exact ho j hjo
          · rw [if_neg (by omega), List.getElem_append_right (by omega)]
            have := hnv (j - olds.length) (by omega)
            simp only [← hol]
            exact this
        split at h
        · rename_i k lo len hxe
          split at h <;> simp only [Option.some.injEq, reduceCtorEq] at h
          rename_i c hg
          subst h
          obtain ⟨⟨g1, g2⟩, g3, g4, g5, g6, g7, g8⟩ := hvc
          have hkH := hget_mut hg
          have hx := R.ev x
          rw [hxe] at hx
          obtain ⟨olds, o1, o2, o3⟩ := elems_val (P := P) R (x := x) (p := lo + len ≤ c.length) (xs := (c.drop lo).take len) (by rw [hxe]; simp only [elemsA, hg]) g6
          obtain ⟨news, n1, n2, n3⟩ := elems_val (P := P) R hxs g3
          have hlen : ((c.drop lo).take len).length = len := by simp only [List.length_take, List.length_drop]; omega
          rw [hlen] at o2
          have hone : ∀ u ∈ news, u.oneCell' = true := by
            intro u hu
            obtain ⟨j, hj, rfl⟩ := List.getElem_of_mem hu
            have h1 := n3 j (by omega)
            have h2 := (List.all_eq_true.1 g4) xs[j] (List.getElem_mem _)
            have e : news.getD j undef = news[j] := by simp [List.getD, List.getElem?_eq_getElem hj]
            rw [e] at h1
            exact (cellOk_one h2 h1).1
          generalize hv : a.eval x = v at hx
          cases hx with
          | sl _ _ _ _ hk' hs =>
            have elsewhere : ∀ (ad : Option Addr) (cap : Nat), v = .slice ad len cap → cap < len + news.length →
                ∃ v w' m', Yields P { dst := dst, op := .call { callee := .builtin .append, args := #[x, y], argTypes := #[t, t] }, type := type, pos := pos, after := after, guard := guard } a w v w' ∧
                  Rel C m' { s with H := hset s.H k .dead ++ [.own ((c.drop lo).take len ++ xs)] } a.tmps w' ∧ AVal (Reads (OK C m' (hset s.H k .dead ++ [.own ((c.drop lo).take len ++ xs)]) w') w') m' (hset s.H k .dead ++ [.own ((c.drop lo).take len ++ xs)]) (.sl s.H.length 0 (len + xs.length)) v := by
              intro ad cap hvs hcap
              obtain ⟨cur, f1, f2, f3, f4, f5⟩ := fresh olds news ((c.drop lo).take len) ad cap g1 g2 (by rw [hv, hvs, o2]) o1 (by rw [o2, hlen]) o3 n1 n2 n3 (by omega) (by rw [o2, n2]; exact g7) (by omega)
              refine ⟨_, _, _, f1, R.moveBlk (w' := w.drew.alloc (.cells cur e)) hkH (l' := ⟨w.heap.size, 0, cur.size⟩) ((below_drew_alloc _).mono R.base) (fun b hb _ => (below_drew_alloc (.cells cur e)).block b hb) (.inr (Nat.le_refl _)) (cur := cur) (e := e) (heap_alloc_new w.drew _) rfl f3 (by simpa using f4) (fun j hj => by simpa using f5 j hj),
                .sl _ _ _ _ (by simp [hset_length]) <| .inr ⟨⟨w.heap.size, 0, cur.size⟩, grownCap w (olds.length + news.length) cap e, by simp [mput], by rw [o2, n2], ?_, by simp [f2]⟩⟩
              have := grownCap_ge w (olds.length + news.length) cap e
              omega
            rcases hs with ⟨rfl, ad, rfl⟩ | ⟨l, cap, hm, rfl, hc1, hc2⟩
            · by_cases hn : news = []
              · have hx0 : xs = [] := List.eq_nil_of_length_eq_zero (by rw [← n2, hn]; rfl)
                subst hx0
                have hr := append_nothing (P := P) (w := w) type hu h1 (by rw [h4, g1]) (ad := ad) (n := 0) (cap := 0) (by rw [hn] at n1; exact n1) (Nat.le_refl _)
                have hK := (R.kill k).newNil
                have hl0 : (hset s.H k .dead).length = s.H.length := hset_length _ _ _
                simp only [hl0] at hK
                have e0 : (c.drop lo).take 0 ++ ([] : List AV) = [] := by simp
                refine ⟨_, _, _, run _ _ (by rw [hv]; exact hr), by rw [e0]; exact hK, .sl _ _ _ _ (by simp [hset_length]) <| .inl ⟨rfl, ad, rfl⟩⟩
              · exact elsewhere ad 0 rfl (by have := List.length_pos_iff.2 hn; omega)
            · by_cases hroom : len + news.length ≤ cap
              · rcases R.blk k c hkH with ⟨_, hn⟩ | ⟨l', cur, e', hm2, hB, hh, hs1, hs3, hs2, hcells⟩
                · rw [hm] at hn; cases hn
                · rw [hm] at hm2; cases hm2
                  have hr := append_room (P := P) (w := w) type hu h1 (by rw [h4, g1]) hh n1 hone (n := len) (cap := cap) (q := l.o + lo) hroom (by omega)
                  have hcsz : (cur.toList.take (l.o + lo + len) ++ news ++ cur.toList.drop (l.o + lo + len + news.length)).toArray.size = l.n := by
                    simp only [List.size_toArray, List.length_append, List.length_take, List.length_drop, Array.length_toList]; omega
                  refine ⟨_, _, _, run _ _ (by rw [hv]; exact hr), R.moveBlk hkH (l' := ⟨l.g, l.o + lo, l.n⟩) ?_ (fun b hb hne => setRow_other w l.g b _ (hne l hm)) (.inl ⟨l, hm, rfl⟩) (setRow_heap w l.g cur _ e' _ hh) hcsz hs3 ?_ ?_,
                    .sl _ _ _ _ (by simp [hset_length]) <| .inr ⟨⟨l.g, l.o + lo, l.n⟩, cap, by simp [mput], by rw [n2]; rfl, by omega, by simp only; omega⟩⟩
                  · exact ⟨rfl, rfl, rfl, by simp [World.setRow], fun b hb => setRow_other w l.g b _ (by omega)⟩
                  · simp only [List.length_append, hlen]; omega
                  · intro j hj
                    simp only [List.length_append, hlen] at hj
                    dsimp only
                    rw [stored_getD (by omega)]
                    by_cases hjl : j < len
                    · rw [if_neg (by omega), List.getElem_append_left (by omega)]
                      simp only [List.getElem_take, List.getElem_drop]
                      have := hcells (lo + j) (by omega)
                      rwa [← Nat.add_assoc] at this
                    · rw [if_pos (by omega), List.getElem_append_right (by omega)]
                      have := n3 (j - len) (by omega)
                      simp only [hlen]
                      rwa [show l.o + lo + j - (l.o + lo + len) = j - len by omega]
              · exact elsewhere _ cap rfl (by omega)
        · rename_i hxe
          simp only [Option.some.injEq] at h
          subst h
          obtain ⟨⟨g1, g2⟩, g3, g4, g5, g6⟩ := hvc
          have hx := R.ev x
          rw [hxe] at hx
          have hv := hx.p_inv.nil_inv
          obtain ⟨news, n1, n2, n3⟩ := elems_val (P := P) R hxs g3
          by_cases hn : news = []
          · have hx0 : xs = [] := List.eq_nil_of_length_eq_zero (by rw [← n2, hn]; rfl)
            subst hx0
            have hr := append_nothing (P := P) (w := w) type hu h1 (by rw [h4, g1]) (ad := none) (n := 0) (cap := 0) (by rw [hn] at n1; exact n1) (Nat.le_refl _)
            exact ⟨_, _, _, run _ _ (by rw [hv]; exact hr), R.newNil, .sl _ _ _ _ (by simp) <| .inl ⟨rfl, none, rfl⟩⟩
          · obtain ⟨cur, f1, f2, f3, f4, f5⟩ := fresh [] news [] none 0 g1 g2 hv (by rw [hv]; exact src_nil) rfl (fun j hj => by simp at hj) n1 n2 n3 (by have := List.length_pos_iff.2 hn; simp; omega) (by simpa [n2] using g5) (by simpa [n2] using g6)
            simp only [List.nil_append] at f4 f5
            refine ⟨_, _, _, f1, R.newBlk (below_drew_alloc _) (cur := cur) (e := e) (heap_alloc_new w.drew _) f3 f4 f5, .sl _ _ _ _ (by simp) <| .inr ⟨⟨w.heap.size, 0, cur.size⟩, grownCap w (([] : List Value).length + news.length) 0 e, by simp [mput], by simp [n2], ?_, by simp [f2]⟩⟩
            have := grownCap_ge w (([] : List Value).length + news.length) 0 e
            simp only [List.length_nil, Nat.zero_add] at this ⊢
            omega
        · rename_i l hxe
          simp only [Option.some.injEq] at h
          subst h
          obtain ⟨⟨g1, g2⟩, g3, g4, g5, g6, g7, g8⟩ := hvc
          have hx := R.ev x
          rw [hxe] at hx
          obtain ⟨ad, hv⟩ : ∃ ad, a.eval x = .slice (some ad) l.length l.length := by
            generalize a.eval x = v at hx
            rcases hx.p_inv.nn_inv with ⟨rfl, ad, rfl⟩ | ⟨b, off, sz, vs, rfl, _⟩
            · exact ⟨ad, rfl⟩
            · exact ⟨_, rfl⟩
          obtain ⟨olds, o1, o2, o3⟩ := elems_val (P := P) R (x := x) (p := l.all PV.one = true) (xs := l.map .p) (by rw [hxe]; rfl) g5
          obtain ⟨news, n1, n2, n3⟩ := elems_val (P := P) R hxs g3
          simp only [List.length_map] at o2
          obtain ⟨cur, f1, f2, f3, f4, f5⟩ := fresh olds news (l.map .p) (some ad) l.length g1 g2 (by rw [hv, o2]) o1 (by simpa using o2) o3 n1 n2 n3 (by omega) (by rw [o2, n2]; exact g7) (by omega)
          refine ⟨_, _, _, f1, R.newBlk (below_drew_alloc _) (cur := cur) (e := e) (heap_alloc_new w.drew _) f3 f4 f5, .sl _ _ _ _ (by simp) <| .inr ⟨⟨w.heap.size, 0, cur.size⟩, grownCap w (olds.length + news.length) l.length e, by simp [mput], by rw [o2, n2], ?_, by simp [f2]⟩⟩
          have := grownCap_ge w (olds.length + news.length) l.length e
          omega
        · cases h
      · cases h
    · cases h
  · cases h

end

end Go.Pv
