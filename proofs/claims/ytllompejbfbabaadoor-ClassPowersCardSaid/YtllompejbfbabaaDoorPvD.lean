/-
  The operations that turn no memory: what is reckoned on abstract states is what the model does. Conditions: none; a library text.
-/
import Derived.Test.YtllompejbfbabaaDoorPvC
import Derived.WalkSpells
set_option linter.all false
namespace Go.Pv
open Go.RowKit

theorem AVal.p_inv {rd : PV → Value → Prop} {m : Map} {H : Heap} {pv : PV} {v : Value} (h : AVal rd m H (.p pv) v) : rd pv v := by cases h; assumption
theorem Reads.int_inv {ok : Nat → Prop} {w : World} {k : IntKind} {i : Int} {v : Value} (h : Reads ok w (.int k i) v) : v = .int k i := by cases h; rfl
theorem Reads.bool_inv {ok : Nat → Prop} {w : World} {b : Bool} {v : Value} (h : Reads ok w (.bool b) v) : v = .bool b := by cases h; rfl
theorem Reads.str_inv {ok : Nat → Prop} {w : World} {b : ByteArray} {v : Value} (h : Reads ok w (.str b) v) : v = .string b := by cases h; rfl
theorem Reads.nil_inv {ok : Nat → Prop} {w : World} {v : Value} (h : Reads ok w .nil v) : v = .slice none 0 0 := by cases h; rfl
theorem Reads.nz_inv {ok : Nat → Prop} {w : World} {v : Value} (h : Reads ok w .nz v) : ∃ a cap, v = .slice (some a) 0 cap := by cases h; exact ⟨_, _, rfl⟩
theorem Reads.list_cap {ok : Nat → Prop} {w : World} {l : List PV} {ad : Option Addr} {n cap : Nat} (h : Reads ok w (.list l) (.slice ad n cap)) (hn : ad = none) : cap = 0 := by
  subst hn
  cases h with
  | list0 _ _ h => exact h rfl
theorem Reads.agg2_inv {ok : Nat → Prop} {w : World} {a b : PV} {v : Value} (h : Reads ok w (.agg [a, b]) v) : ∃ x y, v = .agg #[x, y] ∧ Reads ok w a x ∧ Reads ok w b y := by
  cases h with
  | agg _ vs hl hr =>
    obtain ⟨vs⟩ := vs
    match vs, hl with
    | [x, y], _ => exact ⟨x, y, rfl, hr 0 (by simp), hr 1 (by simp)⟩
theorem Reads.list_len {ok : Nat → Prop} {w : World} {l : List PV} {v : Value} (h : Reads ok w (.list l) v) : ∃ a cap, v = .slice a l.length cap ∧ (l ≠ [] → ∃ b, a = some b) ∧ l.length ≤ cap := by
  cases h with
  | list0 a cap h => exact ⟨a, cap, rfl, by simp, by simp⟩
  | list _ b off cap sz vs hb hsz hcap hc hr => exact ⟨_, cap, rfl, fun _ => ⟨_, rfl⟩, hcap⟩
theorem Reads.nn_len {ok : Nat → Prop} {w : World} {l : List PV} {v : Value} (h : Reads ok w (.nn l) v) : ∃ a cap, v = .slice (some a) l.length cap ∧ l.length ≤ cap := by
  cases h with
  | nn0 a => exact ⟨a, 0, rfl, by simp⟩
  | nn _ b off sz vs hb hsz hc hr => exact ⟨_, _, rfl, Nat.le_refl _⟩

/-- An operation runs, and yields. -/
def Yields (P : Program) (o : Oper) (a : Act) (w : World) (v : Value) (w' : World) : Prop :=
  (execOp a.eval o).run P w = .ok (.value v) w' ∨ ((execOp a.eval o).run P w = .ok .skip w' ∧ v = undef)

/-- WHAT AN OPERATION DOES, on whatever frame and world is of the state. -/
def Does (P : Program) (o : Oper) (s : St) (av : AV) (H' : Heap) : Prop :=
  ∀ C m (a : Act) w, Rel C m s a.tmps w → ∃ v w' m', Yields P o a w v w' ∧ Rel C m' { s with H := H' } a.tmps w' ∧ AVal (Reads (OK C m' H' w') w') m' H' av v

theorem tiOf_parts {P : Program} {t : TypeId} {ti : TI} (h : tiOf P t = some ti) : ∃ i d z, P.info? t = some i ∧ P.underlying t = some d ∧ i.zero = some z ∧ i.size = ti.size ∧ i.bytes = ti.bytes ∧
    z.cells.toList = ti.zero ∧ ti.kind = (match d with
        | .int k => .int k
        | .bool => .bool
        | .string => .str
        | .slice e => .slice e
        | .struct fs => bif fs.toList.all (fun f => (P.info? f.type).isSome) then .struct (fs.toList.map fun f => (f.offset, f.type, P.cellsOf f.type)) else .bad
        | .array n e => .array n e
        | _ => .other) ∧ ti.eq2 = eq2Of P t d := by
  unfold tiOf at h
  split at h
  · rename_i i d hi hd
    split at h
    · rename_i z hz
      simp only [Option.some.injEq] at h
      subst h
      exact ⟨i, d, z, hi, hd, hz, rfl, rfl, rfl, rfl, rfl⟩
    · cases h
  · cases h

theorem bif_ne {α : Type} {x y z : α} (h : x ≠ y) (h' : x ≠ z) (b : Bool) : x ≠ (bif b then y else z) := by cases b <;> assumption

theorem ti_slice {P : Program} {t : TypeId} {ti : TI} {e : TypeId} (h : tiOf P t = some ti) (hk : ti.kind = .slice e) : P.underlying t = some (.slice e) := by
  obtain ⟨i, d, z, h1, h2, h3, h4, h5, h6, h7, h8⟩ := tiOf_parts h
  rw [hk] at h7
  rw [h2]
  cases d <;> simp only [reduceCtorEq, TK.slice.injEq] at h7
  · rw [h7]
  · exact absurd h7 (bif_ne (by simp) (by simp) _)
theorem ti_int {P : Program} {t : TypeId} {ti : TI} {k : IntKind} (h : tiOf P t = some ti) (hk : ti.kind = .int k) : P.underlying t = some (.int k) := by
  obtain ⟨i, d, z, h1, h2, h3, h4, h5, h6, h7, h8⟩ := tiOf_parts h
  rw [hk] at h7
  rw [h2]
  cases d <;> simp only [reduceCtorEq, TK.int.injEq] at h7
  · rw [h7]
  · exact absurd h7 (bif_ne (by simp) (by simp) _)
theorem ti_bool {P : Program} {t : TypeId} {ti : TI} (h : tiOf P t = some ti) (hk : ti.kind = .bool) : P.underlying t = some .bool := by
  obtain ⟨i, d, z, h1, h2, h3, h4, h5, h6, h7, h8⟩ := tiOf_parts h
  rw [hk] at h7
  rw [h2]
  cases d <;> simp only [reduceCtorEq] at h7
  · rfl
  · exact absurd h7 (bif_ne (by simp) (by simp) _)
theorem ti_str {P : Program} {t : TypeId} {ti : TI} (h : tiOf P t = some ti) (hk : ti.kind = .str) : P.underlying t = some .string := by
  obtain ⟨i, d, z, h1, h2, h3, h4, h5, h6, h7, h8⟩ := tiOf_parts h
  rw [hk] at h7
  rw [h2]
  cases d <;> simp only [reduceCtorEq] at h7
  · rfl
  · exact absurd h7 (bif_ne (by simp) (by simp) _)
theorem ti_struct {P : Program} {t : TypeId} {ti : TI} {l : List (Nat × TypeId × Nat)} (h : tiOf P t = some ti) (hk : ti.kind = .struct l) :
    ∃ fs, P.underlying t = some (.struct fs) ∧ l = (fs.toList.map fun f => (f.offset, f.type, P.cellsOf f.type)) ∧ ∀ f ∈ fs.toList, (P.info? f.type).isSome = true := by
  obtain ⟨i, d, z, h1, h2, h3, h4, h5, h6, h7, h8⟩ := tiOf_parts h
  rw [hk] at h7
  cases d <;> simp only [reduceCtorEq] at h7
  rename_i fs
  by_cases hb : (fs.toList.all fun f => (P.info? f.type).isSome) = true
  · have h7' : TK.struct l = bif (fs.toList.all fun f => (P.info? f.type).isSome) then TK.struct (fs.toList.map fun f => (f.offset, f.type, P.cellsOf f.type)) else TK.bad := h7
    rw [hb] at h7'
    simp only [cond_true, TK.struct.injEq] at h7'
    exact ⟨_, h2, h7', fun f hf => (List.all_eq_true.1 hb) f hf⟩
  · have h7' : TK.struct l = bif (fs.toList.all fun f => (P.info? f.type).isSome) then TK.struct (fs.toList.map fun f => (f.offset, f.type, P.cellsOf f.type)) else TK.bad := h7
    rw [Bool.not_eq_true] at hb
    rw [hb] at h7'
    simp at h7'
theorem ti_array {P : Program} {t : TypeId} {ti : TI} {n : Nat} {e : TypeId} (h : tiOf P t = some ti) (hk : ti.kind = .array n e) : P.underlying t = some (.array n e) := by
  obtain ⟨i, d, z, h1, h2, h3, h4, h5, h6, h7, h8⟩ := tiOf_parts h
  rw [hk] at h7
  rw [h2]
  cases d <;> simp only [reduceCtorEq, TK.array.injEq] at h7
  · rw [h7.1, h7.2]
  · exact absurd h7 (bif_ne (by simp) (by simp) _)
theorem ti_size {P : Program} {t : TypeId} {ti : TI} (h : tiOf P t = some ti) (w : World) : (sizeOf t).run P w = .ok ti.size w := by
  obtain ⟨i, d, z, h1, h2, h3, h4, h5, h6, h7, h8⟩ := tiOf_parts h
  simp [sizeOf, typeInfo, h1, h4]
theorem ti_isAgg {P : Program} {t : TypeId} {ti : TI} (h : tiOf P t = some ti) (w : World) : (isAgg t).run P w = .ok (isRow ti.kind) w := by
  obtain ⟨i, d, z, h1, h2, h3, h4, h5, h6, h7, h8⟩ := tiOf_parts h
  simp only [isAgg, Sem.run_bind, run_underlying h2, Result.andThen_ok]
  rw [h7]
  cases d <;> first | rfl | skip
  rename_i fs
  have e : ∀ (b : Bool) (l : List (Nat × TypeId × Nat)), isRow (bif b then TK.struct l else TK.bad) = true := by
    intro b l; cases b <;> rfl
  exact congrArg (fun b => Result.ok b w) (e _ _).symm

theorem wrap64_in {x : Int} (h : In64 x) : IntKind.i64.wrap x = x := by
  unfold In64 at h
  rw [IntKind.wrap_i64]; omega

theorem arith_run {f : Int → Int → Int} {k : IntKind} {a b : Int} (h : (arith f k a b).1) : .int k (k.wrap (f a b)) = (match (arith f k a b).2 with | .int k i => Value.int k i | _ => undef) := by
  unfold arith at *
  cases k <;> simp_all [wrap64_in]

theorem arith_reads {ok : Nat → Prop} {w : World} {f : Int → Int → Int} {k : IntKind} {a b : Int} (h : (arith f k a b).1) : Reads ok w (arith f k a b).2 (.int k (k.wrap (f a b))) := by
  unfold arith at *
  cases k <;> simp only at h ⊢ <;> first | exact .int _ _ | (rw [wrap64_in h]; exact .int _ _)

/-- An integer operation, as the model runs it. -/
theorem binInt_run {P : Program} {w : World} {ok : Nat → Prop} {op : BinOp} {t : TypeId} {k : IntKind} {a b : Int} (hop : op ≠ .shl ∧ op ≠ .shr) (h : (binInt op k a b).1) :
    ∃ v, (binOp op t (.int k a) (.int k b)).run P w = .ok v w ∧ Reads ok w (binInt op k a b).2 v := by
  obtain ⟨h1, h2⟩ := hop
  cases op <;> simp only [binInt, ne_eq, not_true_eq_false, reduceCtorEq] at h h1 h2 ⊢
  case add => exact ⟨_, by simp [binOp, Op.intArith], arith_reads h⟩
  case sub => exact ⟨_, by simp [binOp, Op.intArith], arith_reads h⟩
  case mul => exact ⟨_, by simp [binOp, Op.intArith], arith_reads h⟩
  case quo => exact ⟨_, by simp [binOp, Op.intDiv, h.1], arith_reads h.2⟩
  case rem => exact ⟨_, by simp [binOp, Op.intDiv, h], .int _ _⟩
  case and => exact ⟨_, by simp [binOp, Op.intBits], .int _ _⟩
  case or => exact ⟨_, by simp [binOp, Op.intBits], .int _ _⟩
  case xor => exact ⟨_, by simp [binOp, Op.intBits], .int _ _⟩
  case andNot => exact ⟨_, by simp [binOp, Op.intBits], .int _ _⟩
  case eql => exact ⟨_, by simp [binOp, Op.intCmp], .bool _⟩
  case neq => exact ⟨_, by simp [binOp, Op.intCmp], .bool _⟩
  case lss => exact ⟨_, by simp [binOp, Op.intCmp], .bool _⟩
  case leq => exact ⟨_, by simp [binOp, Op.intCmp], .bool _⟩
  case gtr => exact ⟨_, by simp [binOp, Op.intCmp], .bool _⟩
  case geq => exact ⟨_, by simp [binOp, Op.intCmp], .bool _⟩

theorem shift_run {P : Program} {w : World} {ok : Nat → Prop} {op : BinOp} {t : TypeId} {k k' : IntKind} {a b : Int} (hop : op = .shl ∨ op = .shr) (h : (binInt op k a b).1) :
    ∃ v, (binOp op t (.int k a) (.int k' b)).run P w = .ok v w ∧ Reads ok w (binInt op k a b).2 v := by
  rcases hop with rfl | rfl <;> simp only [binInt] at h ⊢
  · exact ⟨_, by simp [binOp, Op.shift, show ¬ b < 0 by omega], .int _ _⟩
  · exact ⟨_, by simp [binOp, Op.shift, show ¬ b < 0 by omega], .int _ _⟩

section
variable {P : Program} {T : TypeId → Option TI} (hT : ∀ t ti, T t = some ti → tiOf P t = some ti) {C : Ctx} {m : Map} {s : St} {a : Act} {w : World}

/-- Nothing has turned. -/
theorem still (R : Rel C m s a.tmps w) {o : Oper} {v : Value} {av : AV} (hr : (execOp a.eval o).run P w = .ok (.value v) w) (hv : AVal (Reads (OK C m s.H w) w) m s.H av v) :
    ∃ v w' m', Yields P o a w v w' ∧ Rel C m' { s with H := s.H } a.tmps w' ∧ AVal (Reads (OK C m' s.H w') w') m' s.H av v := ⟨v, w, m, .inl hr, R, hv⟩

theorem kind_of {T : TypeId → Option TI} {t : TypeId} {k : TK} (h : (T t).map TI.kind = some k) : ∃ ti, T t = some ti ∧ ti.kind = k := by
  cases e : T t with
  | none => simp [e] at h
  | some ti => exact ⟨ti, rfl, by simpa [e] using h⟩

theorem eq2_of {T : TypeId → Option TI} {t : TypeId} {k : Bool} (h : (T t).map TI.eq2 = some k) : ∃ ti, T t = some ti ∧ ti.eq2 = k := by
  cases e : T t with
  | none => simp [e] at h
  | some ti => exact ⟨ti, rfl, by simpa [e] using h⟩

theorem plainInt_spec {P : Program} {t : TypeId} (h : plainInt P t = true) : ∃ k, P.underlying t = some (.int k) := by
  unfold plainInt at h
  split at h
  · exact ⟨_, by assumption⟩
  · cases h

theorem run_equalIn_num {P : Program} {t : TypeId} {k : IntKind} (d : Nat) (h : P.underlying t = some (.int k)) (a c : Int) (w : World) :
    (Op.equalIn (d + 1) t (.int .i64 a) (.int .i64 c)).run P w = .ok (a == c) w := by
  simp [Op.equalIn, run_underlying h]

/-- Two structs of two numbers. -/
theorem eq2_run {P : Program} {t : TypeId} {ti : TI} (h : tiOf P t = some ti) (h2 : ti.eq2 = true) (a b c d : Int) (w : World) :
    (Op.equalIn 10000 t (.agg #[.int .i64 a, .int .i64 b]) (.agg #[.int .i64 c, .int .i64 d])).run P w = .ok (a == c && b == d) w ∧ P.eqGuardType P.depth t = false := by
  obtain ⟨i, de, z, h1, h2', h3, h4, h5, h6, h7, h8⟩ := tiOf_parts h
  rw [h2] at h8
  replace h8 := h8.symm
  unfold eq2Of at h8
  split at h8
  · rename_i fs
    split at h8
    · rename_i f g hfs
      simp only [Bool.and_eq_true, bne_iff_ne, ne_eq, beq_iff_eq, Bool.not_eq_eq_eq_not, Bool.not_true] at h8
      obtain ⟨⟨⟨⟨⟨⟨⟨n1, n2⟩, o1⟩, o2⟩, p1⟩, p2⟩, st⟩, eg⟩ := h8
      obtain ⟨k1, p1⟩ := plainInt_spec p1
      obtain ⟨k2, p2⟩ := plainInt_spec p2
      have hf : P.fieldsOf t = fs := by simp [Program.fieldsOf, h2']
      refine ⟨?_, eg⟩
      rw [run_equalIn_struct w 9999 t _ _ (by rw [hf]; exact h2') st, hf, hfs]
      have a1 : ∀ w, (isAgg f.type).run P w = .ok false w := fun w => by simp [isAgg, run_underlying p1]
      have a2 : ∀ w, (isAgg g.type).run P w = .ok false w := fun w => by simp [isAgg, run_underlying p2]
      have q1 : ∀ (x y : Value) w, (part f.type #[x, y] f.offset).run P w = .ok x w := fun x y w => by simp [part, a1, o1]
      have q2 : ∀ (x y : Value) w, (part g.type #[x, y] g.offset).run P w = .ok y w := fun x y w => by simp [part, a2, o2]
      have e1 : (Op.equalIn 9999 f.type (.int .i64 a) (.int .i64 c)).run P w = .ok (a == c) w := by
        exact run_equalIn_num 9998 p1 a c w
      have e2 : (Op.equalIn 9999 g.type (.int .i64 b) (.int .i64 d)).run P w = .ok (b == d) w := by
        exact run_equalIn_num 9998 p2 b d w
      simp only [Op.eqFields, n1, n2, ne_eq, not_false_eq_true, if_true, Sem.run_bind, q1, q2, Result.andThen_ok, e1, Sem.run_ite, Sem.run_pure]
      cases hac : (a == c) <;> cases hbd : (b == d) <;> simp [e2, hbd]
    · cases h8
  · cases h8

include hT in
theorem binA_does (R : Rel C m s a.tmps w) {o : Oper} {op : BinOp} {t u : TypeId} {x y : Operand} (ho : o.op = .binOp op t x y u) {r : OV} (h : binA T op t s.H (s.ev x) (s.ev y) = some r) (hvc : r.vc) :
    r.H = s.H ∧ ∃ v, (execOp a.eval o).run P w = .ok (.value v) w ∧ AVal (Reads (OK C m s.H w) w) m s.H r.av v := by
  have hx := R.ev x
  have hy := R.ev y
  have hg : ∀ (u v : Value), (∀ b c, ¬ (u = .agg b ∧ v = .agg c)) → ¬ (u = .nilIface ∧ v = .nilIface) → (eqGuard op t x y u v).run P w = .ok () w := by
    intro u v h1 h2
    unfold eqGuard
    cases u <;> cases v <;> simp_all <;> split <;> rfl
  unfold binA at h
  split at h
  · -- integers
    rename_i k i k' j hxe hye
    rw [hxe] at hx; rw [hye] at hy
    have ex := hx.p_inv.int_inv
    have ey := hy.p_inv.int_inv
    have hgg := hg (.int k i) (.int k' j) (by simp) (by simp)
    split at h <;> simp only [Option.some.injEq] at h <;> subst h
    · obtain ⟨v, hv, hr⟩ := shift_run (P := P) (w := w) (ok := OK C m s.H w) (op := .shl) (t := t) (k := k) (k' := k') (.inl rfl) hvc
      exact ⟨rfl, v, by simp [execOp, ho, ex, ey, hgg, hv], .p _ _ hr⟩
    · obtain ⟨v, hv, hr⟩ := shift_run (P := P) (w := w) (ok := OK C m s.H w) (op := .shr) (t := t) (k := k) (k' := k') (.inr rfl) hvc
      exact ⟨rfl, v, by simp [execOp, ho, ex, ey, hgg, hv], .p _ _ hr⟩
    · obtain ⟨rfl, hvc⟩ := hvc
      obtain ⟨v, hv, hr⟩ := binInt_run (P := P) (w := w) (ok := OK C m s.H w) (op := op) (t := t) ⟨by assumption, by assumption⟩ hvc
      exact ⟨rfl, v, by simp [execOp, ho, ex, ey, hgg, hv], .p _ _ hr⟩
  · -- bools
    rename_i i j hxe hye
    rw [hxe] at hx; rw [hye] at hy
    have ex := hx.p_inv.bool_inv
    have ey := hy.p_inv.bool_inv
    have hgg := hg (.bool i) (.bool j) (by simp) (by simp)
    split at h <;> simp only [Option.some.injEq, reduceCtorEq] at h <;> subst h <;> rename_i hk <;> obtain ⟨ti, ht, hk⟩ := kind_of hk <;> have hu := ti_bool (hT _ _ ht) hk
    · exact ⟨rfl, _, by simp only [execOp, ho, ex, ey, hgg, Sem.run_bind, Result.andThen_ok, run_eql_bool w t i j hu, Sem.run_pure], .p _ _ (.bool _)⟩
    · exact ⟨rfl, _, by simp only [execOp, ho, ex, ey, hgg, Sem.run_bind, Result.andThen_ok, run_neq_bool w t i j hu, Sem.run_pure]; rfl, .p _ _ (.bool _)⟩
  · -- strings
    rename_i i j hxe hye
    rw [hxe] at hx; rw [hye] at hy
    have ex := hx.p_inv.str_inv
    have ey := hy.p_inv.str_inv
    have hgg := hg (.string i) (.string j) (by simp) (by simp)
    split at h <;> simp only [Option.some.injEq, reduceCtorEq] at h <;> subst h
    · exact ⟨rfl, _, by simp only [execOp, ho, ex, ey, hgg, Sem.run_bind, Result.andThen_ok, binOp_string_eql, ← beq_toListBytes, Sem.run_pure], .p _ _ (.bool _)⟩
    · exact ⟨rfl, _, by simp only [execOp, ho, ex, ey, hgg, Sem.run_bind, Result.andThen_ok, binOp_string_neq, ← beq_toListBytes, Sem.run_pure]; rfl, .p _ _ (.bool _)⟩
  · -- faults
    rename_i p q p' q' hxe hye
    rw [hxe] at hx; rw [hye] at hy
    obtain ⟨x1, x2, ex, e1, e2⟩ := hx.p_inv.agg2_inv
    obtain ⟨y1, y2, ey, e3, e4⟩ := hy.p_inv.agg2_inv
    have e1 := e1.int_inv
    have e2 := e2.int_inv
    have e3 := e3.int_inv
    have e4 := e4.int_inv
    subst e1 e2 e3 e4
    split at h <;> simp only [Option.some.injEq, reduceCtorEq] at h <;> subst h <;> rename_i hk <;> obtain ⟨ti, ht, hk⟩ := eq2_of hk <;> obtain ⟨hr, hge⟩ := eq2_run (hT _ _ ht) hk p q p' q' w
    all_goals
      have hgg : ∀ op, (eqGuard op t x y (.agg #[.int .i64 p, .int .i64 q]) (.agg #[.int .i64 p', .int .i64 q'])).run P w = .ok () w := by
        intro op
        unfold eqGuard
        split <;> simp [hge]
    · exact ⟨rfl, _, by simp only [execOp, ho, ex, ey, hgg, Sem.run_bind, Result.andThen_ok, run_eql_struct, hr, Sem.run_pure], .p _ _ (.bool _)⟩
    · exact ⟨rfl, _, by simp only [execOp, ho, ex, ey, hgg, Sem.run_bind, Result.andThen_ok, run_neq_struct, hr, Sem.run_pure], .p _ _ (.bool _)⟩
  · -- a list against nil
    rename_i l hxe hye
    rw [hxe] at hx; rw [hye] at hy
    obtain ⟨ad, cap, ex, hne, _⟩ := hx.p_inv.list_len
    have ey := hy.p_inv.nil_inv
    have hgg := hg (.slice ad l.length cap) (.slice none 0 0) (by simp) (by simp)
    split at h <;> simp only [Option.some.injEq, reduceCtorEq] at h <;> subst h <;> rename_i hk <;> obtain ⟨ti, ht, hk⟩ := kind_of hk <;> have hu := ti_slice (hT _ _ ht) hk <;>
      obtain ⟨b, rfl⟩ := hne hvc
    · exact ⟨rfl, _, by simp only [execOp, ho, ex, ey, hgg, Sem.run_bind, Result.andThen_ok, Lib.run_eql_slice_nil w t _ _ _ _ _ _ hu, Sem.run_pure]; rfl, .p _ _ (.bool _)⟩
    · exact ⟨rfl, _, by simp only [execOp, ho, ex, ey, hgg, Sem.run_bind, Result.andThen_ok, run_neq_slice_nil_any w t _ _ _ _ _ _ hu, Sem.run_pure]; rfl, .p _ _ (.bool _)⟩
  · -- what is not nil against nil
    rename_i l hxe hye
    rw [hxe] at hx; rw [hye] at hy
    obtain ⟨ad, cap, ex, _⟩ := hx.p_inv.nn_len
    have ey := hy.p_inv.nil_inv
    have hgg := hg (.slice (some ad) l.length cap) (.slice none 0 0) (by simp) (by simp)
    split at h <;> simp only [Option.some.injEq, reduceCtorEq] at h <;> subst h <;> rename_i hk <;> obtain ⟨ti, ht, hk⟩ := kind_of hk <;> have hu := ti_slice (hT _ _ ht) hk
    · exact ⟨rfl, _, by simp only [execOp, ho, ex, ey, hgg, Sem.run_bind, Result.andThen_ok, Lib.run_eql_slice_nil w t _ _ _ _ _ _ hu, Sem.run_pure]; rfl, .p _ _ (.bool _)⟩
    · exact ⟨rfl, _, by simp only [execOp, ho, ex, ey, hgg, Sem.run_bind, Result.andThen_ok, run_neq_slice_nil_any w t _ _ _ _ _ _ hu, Sem.run_pure]; rfl, .p _ _ (.bool _)⟩
  · -- what is empty and not nil against nil
    rename_i hxe hye
    rw [hxe] at hx; rw [hye] at hy
    obtain ⟨ad, cap, ex⟩ := hx.p_inv.nz_inv
    have ey := hy.p_inv.nil_inv
    have hgg := hg (.slice (some ad) 0 cap) (.slice none 0 0) (by simp) (by simp)
    split at h <;> simp only [Option.some.injEq, reduceCtorEq] at h <;> subst h <;> rename_i hk <;> obtain ⟨ti, ht, hk⟩ := kind_of hk <;> have hu := ti_slice (hT _ _ ht) hk
    · exact ⟨rfl, _, by simp only [execOp, ho, ex, ey, hgg, Sem.run_bind, Result.andThen_ok, Lib.run_eql_slice_nil w t _ _ _ _ _ _ hu, Sem.run_pure]; rfl, .p _ _ (.bool _)⟩
    · exact ⟨rfl, _, by simp only [execOp, ho, ex, ey, hgg, Sem.run_bind, Result.andThen_ok, run_neq_slice_nil_any w t _ _ _ _ _ _ hu, Sem.run_pure]; rfl, .p _ _ (.bool _)⟩
  · -- nil against nil
    rename_i hxe hye
    rw [hxe] at hx; rw [hye] at hy
    have ex := hx.p_inv.nil_inv
    have ey := hy.p_inv.nil_inv
    have hgg := hg (.slice none 0 0) (.slice none 0 0) (by simp) (by simp)
    split at h <;> simp only [Option.some.injEq, reduceCtorEq] at h <;> subst h <;> rename_i hk <;> obtain ⟨ti, ht, hk⟩ := kind_of hk <;> have hu := ti_slice (hT _ _ ht) hk
    · exact ⟨rfl, _, by simp only [execOp, ho, ex, ey, hgg, Sem.run_bind, Result.andThen_ok, Lib.run_eql_slice_nil w t _ _ _ _ _ _ hu, Sem.run_pure]; rfl, .p _ _ (.bool _)⟩
    · exact ⟨rfl, _, by simp only [execOp, ho, ex, ey, hgg, Sem.run_bind, Result.andThen_ok, run_neq_slice_nil_any w t _ _ _ _ _ _ hu, Sem.run_pure]; rfl, .p _ _ (.bool _)⟩
  · cases h
end

end Go.Pv
