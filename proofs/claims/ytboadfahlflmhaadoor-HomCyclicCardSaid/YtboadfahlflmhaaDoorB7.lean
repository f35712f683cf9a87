/-
  Texts of this proof, one behind the other: what each says stands at its head. Conditions: none.
-/
import Derived.Test.YtboadfahlflmhaaDoorB6
import Derived.Test.YtboadfahlflmhaaDoorB5
import Derived.Test.YtboadfahlflmhaaDoorB4
import Derived.Test.YtboadfahlflmhaaDoorRows
import Derived.ProofKit
import Derived.LaidMore
import Derived.OpenShut
import Derived.Stop.Joined

/-
  Loops over a function: a round out of its body's walk; the statement. Conditions: none; a library text.
-/
set_option linter.all false
namespace Go.Pv
open Go.RowKit

section
variable {P : Program} {T : TypeId → Option TI} {C : Ctx} {m : Map} {s : St} {tmps : Array Value} {w : World}

theorem Rel.reslot {n n' : Nat} {sl sl' : List (Nat × AV)} {H : Heap} {tmps' : Array Value} (R : Rel C m ⟨n, sl, H⟩ tmps w) (h1 : tmps'.size = n') (h2 : ∀ t, AVal (Reads (OK C m H w) w) m H (lk sl' t) (tmps'.getD t undef)) : Rel C m ⟨n', sl', H⟩ tmps' w :=
  ⟨R.laid, R.below, R.base, h1, R.inj, R.blk, R.fro, h2, R.mp⟩

theorem hset_app {A B : Heap} {κ : Nat} {b : Blk} (h : κ < A.length) : hset (A ++ B) κ b = hset A κ b ++ B := by
  refine List.ext_getElem? fun j => ?_
  have h2 : κ < (A ++ B).length := by simp; omega
  by_cases hj : j < A.length
  · have e1 : (hset A κ b ++ B)[j]? = (hset A κ b)[j]? := List.getElem?_append_left (by rw [hset_length]; exact hj)
    have e2 : (A ++ B)[j]? = A[j]? := List.getElem?_append_left hj
    rw [e1, hset_get, hset_get, e2]
    by_cases e : j = κ
    · rw [if_pos ⟨e, h2⟩, if_pos ⟨e, h⟩]
    · rw [if_neg (by simp [e]), if_neg (by simp [e])]
  · have e1 : (hset A κ b ++ B)[j]? = B[j - A.length]? := by rw [List.getElem?_append_right (by rw [hset_length]; omega), hset_length]
    have e2 : (A ++ B)[j]? = B[j - A.length]? := List.getElem?_append_right (by omega)
    rw [e1, hset_get, e2, if_neg (by omega)]

/-- What is known of a frame, slot by slot. -/
def envA (n : Nat) (sl : List (Nat × AV)) : List AV := (List.range n).map (lk sl)
theorem envA_len (n : Nat) (sl : List (Nat × AV)) : (envA n sl).length = n := by simp [envA]
theorem envA_get {n : Nat} {sl : List (Nat × AV)} {c : Nat} (h : c < (envA n sl).length) : (envA n sl)[c] = lk sl c := by simp [envA]
def keysLt (n : Nat) (sl : List (Nat × AV)) : Bool := sl.all fun e => decide (e.1 < n)
theorem keysLt_lk : ∀ {n : Nat} {sl : List (Nat × AV)}, keysLt n sl = true → ∀ t, n ≤ t → lk sl t = .dead
  | n, [], _, t, _ => rfl
  | n, (i, a) :: r, h, t, ht => by
    simp only [keysLt, List.all_cons, Bool.and_eq_true, decide_eq_true_eq] at h
    simp only [lk]
    rw [show (i == t) = false by simp; omega]
    exact keysLt_lk h.2 t ht

/-- A hole for a loop's record. -/
structure HoleQ (κ : Nat) (Hf : Blk → Heap) : Prop where
  at_ : ∀ b, (Hf b)[κ]? = some b
  set_ : ∀ b b', hset (Hf b) κ b' = Hf b'

theorem HoleQ.lt {κ : Nat} {Hf : Blk → Heap} (h : HoleQ κ Hf) (b : Blk) : κ < (Hf b).length := (List.getElem?_eq_some_iff.1 (h.at_ b)).1
theorem HoleQ.app {κ : Nat} {Hf : Blk → Heap} (h : HoleQ κ Hf) (B : Heap) : HoleQ κ fun b => Hf b ++ B :=
  ⟨fun b => by rw [List.getElem?_append_left (h.lt b)]; exact h.at_ b, fun b b' => by show hset (Hf b ++ B) κ b' = Hf b' ++ B; rw [hset_app (h.lt b), h.set_]⟩

/-- The record behind a round. -/
def recB (b : Bool) (rec : Loop) : Loop := if b then rec else { rec with state := .done, pending := some .ret }

structure RecOk (rec : Loop) (n pp : Nat) (assign body : Code) : Prop where
  params : rec.params = #[pp]
  assign : rec.assign = assign
  body : rec.body = body
  state : rec.state = .ready
  pending : rec.pending = none
  size : rec.tmps.size = n

theorem anc_at {q : Nat} {H : Heap} {κ : Nat} (hκ : κ < q) : (H ++ ancs 0 q)[H.length + κ]? = some (.anc κ κ) := by
  rw [List.getElem?_append_right (by omega), Nat.add_sub_cancel_left, ancs_at _ _ _ hκ, Nat.zero_add]

/-- A ROUND'S CONTRACT, out of its body's walk. -/
theorem yld_of {q κ n pp : Nat} {rec : Loop} {assign body : Code} {sl sl1 : List (Nat × AV)} {x : PV} {H0 H1 : Blk → Heap} {b : Bool} (hr : RecOk rec n pp assign body) (hpp : pp < n) (hsl : keysLt n sl = true) (hκ : κ < q) (h0 : HoleQ κ H0) (h1 : HoleQ κ H1)
    (hA : ∀ r0, Holds P assign (fun e s' => e = .normal ∧ ∃ π, Le π ⟨n, sl1, H0 (.lp r0) ++ ancs 0 q⟩ s') ⟨n, (pp, .p x) :: sl, H0 (.lp r0) ++ ancs 0 q⟩)
    (hB : ∀ r0, Holds P body (fun e s' => e = (if b then .normal else .ret) ∧ ∃ π, Le π ⟨n, [], H1 (.lp r0) ++ ancs 0 q⟩ s') ⟨n, sl1, H0 (.lp r0) ++ ancs 0 q⟩) :
    YldQ P q κ rec (envA n sl) x (H0 (.lp rec)) (.p (.bool b)) (H1 (.lp (recB b rec))) := by
  intro C m w fv v g R hfv hg
  have hs0 : AVal _ m (H0 (.lp rec) ++ ancs 0 q) (.yv κ (envA n sl) rec.tmps) fv := R.slot 0
  have hs1 : AVal _ m (H0 (.lp rec) ++ ancs 0 q) (.p x) v := R.slot 1
  have hloc : ∃ lc, m κ = some lc ∧ fv = .func (.yield lc.g) #[] #[] := by
    cases hs0 with
    | yv _ _ _ _ _ h _ _ => exact h
  have henv : ∀ c (h : c < (envA n sl).length), AVal (Reads (OK C m (H0 (.lp rec) ++ ancs 0 q) w) w) m (H0 (.lp rec) ++ ancs 0 q) (envA n sl)[c] (rec.tmps.getD c undef) := by
    cases hs0 with
    | yv _ _ _ _ _ _ _ h => exact h
  obtain ⟨lc, hm, hfe⟩ := hloc
  rw [hfv] at hfe
  obtain rfl : g = lc.g := by cases hfe; rfl
  have hanc : m κ = C.anc κ := (R.mp.2.2.1 _ κ κ (anc_at hκ)).2
  have htm : (rec.params.zip #[v]).foldl (fun tmps (t, a) => tmps.setIfInBounds t a) rec.tmps = rec.tmps.setIfInBounds pp v := by rw [hr.params]; simp [Array.zip]
  rw [htm, hr.assign, hr.body]
  have R1 : Rel C m ⟨n, (pp, .p x) :: sl, H0 (.lp rec) ++ ancs 0 q⟩ (rec.tmps.setIfInBounds pp v) w := R.reslot (by rw [Array.size_setIfInBounds]; exact hr.size) fun t => by
    simp only [lk]
    by_cases e : pp = t
    · subst e
      rw [show (pp == pp) = true by simp, cond_true]
      have : (rec.tmps.setIfInBounds pp v).getD pp undef = v := by simp [Array.getD_eq_getD_getElem?, hr.size, hpp]
      rw [this]; exact hs1
    · rw [show (pp == t) = false by simpa using e, cond_false]
      have e2 : (rec.tmps.setIfInBounds pp v).getD t undef = rec.tmps.getD t undef := by
        simp only [Array.getD_eq_getD_getElem?]
        rw [Array.getElem?_setIfInBounds_ne e]
      rw [e2]
      by_cases ht : t < n
      · have := henv t (by rw [envA_len]; exact ht)
        rwa [envA_get] at this
      · rw [keysLt_lk hsl t (by omega)]; exact .dead _
  refine roundIn_of_wpIn (F := Fence.wide) trivial ?_
  refine wpR_mono (r := some lc.g) (hA rec (some lc.g) [] C m { tmps := rec.tmps.setIfInBounds pp v, defers := [] } w R1 rfl) fun e a1 w1 ⟨s1, m1, ⟨he, π, hle⟩, R2, hd⟩ => ?_
  subst he
  have R3 := R2.weaken hle
  have g0 := h0.app (ancs 0 q)
  obtain ⟨l1, c1, c2, c3⟩ := R3.mp.2.2.2.1 κ rec (g0.at_ _)
  have hl1 : l1.g = lc.g := by
    have := (R3.mp.2.2.1 _ κ κ (anc_at hκ)).2
    rw [c1, ← hanc, hm] at this
    rw [Option.some.inj this]
  rw [hl1] at c3
  refine ⟨_, run_beginRound c3 hr.state, ?_⟩
  have R4 := R3.setLp (r' := { rec with state := .busy }) (g0.at_ _) c1
  rw [hl1] at R4
  simp only at R4
  rw [show hset (H0 (.lp rec) ++ ancs 0 q) κ (.lp { rec with state := .busy }) = H0 (.lp { rec with state := .busy }) ++ ancs 0 q from g0.set_ _ _] at R4
  refine wpR_mono (r := some lc.g) (hB _ (some lc.g) [] C _ a1 _ R4 hd) fun e a2 w3 ⟨s2, m2, ⟨he, π2, hle2⟩, R5, hd2⟩ => ?_
  have R6 := R5.weaken hle2
  have g1 := h1.app (ancs 0 q)
  obtain ⟨l2, d1, d2, d3⟩ := R6.mp.2.2.2.1 κ _ (g1.at_ _)
  have hl2 : l2.g = lc.g := by
    have := (R6.mp.2.2.1 _ κ κ (anc_at hκ)).2
    rw [d1, ← hanc, hm] at this
    rw [Option.some.inj this]
  rw [hl2] at d3
  have fin : ∀ (jump : Option Code) (b' : Bool), jump.isNone = b' → ({ rec with state := if b' then .ready else .done, pending := jump } : Loop) = recB b rec → b' = b → ∃ v w', (Instr.endRound lc.g jump).run P w3 = .ok v w' ∧
      ∃ v' m', Ending.returned v = .returned v' ∧ Rel C m' ⟨1, [(0, .p (.bool b))], H1 (.lp (recB b rec)) ++ ancs 0 q⟩ #[v'] w' := fun jump b' hj hrec hb => by
    have hrun := run_endRound (P := P) jump d3
    rw [hj] at hrun
    refine ⟨_, _, hrun, _, mren m2 π2, rfl, ?_⟩
    have R7 := R6.setLp (r' := recB b rec) (g1.at_ _) d1
    rw [hl2] at R7
    simp only at R7
    rw [show hset (H1 (.lp { rec with state := .busy }) ++ ancs 0 q) κ (.lp (recB b rec)) = H1 (.lp (recB b rec)) ++ ancs 0 q from g1.set_ _ _] at R7
    rw [← hrec] at R7 ⊢
    simp only at R7 ⊢
    refine R7.reslot rfl fun t => ?_
    cases t with
    | zero => rw [hb]; exact .p _ _ (.bool b)
    | succ t => exact .dead _
  subst he
  cases b with
  | true =>
    refine fin none true rfl ?_ rfl
    have := hr.state
    have := hr.pending
    cases rec
    simp only at *
    subst_vars
    rfl
  | false => exact fin (some .ret) false rfl rfl rfl

/-! ### Code with a loop over a function -/

/-- The marks among the deferred calls. -/
def Dfr (C0 C : Ctx) (ds : List Deferred) : Prop := ds.Nodup ∧ ∀ d ∈ ds, ∃ D, d = { target := .collected D, args := #[] } ∧ C0.B D ∧ ¬ C.B D ∧ C.w0.heap[D]? = some (.deferred (some []))

def SubX (C C0 : Ctx) : Prop := ∀ m s tmps w, Rel C m s tmps w → Rel C0 m s tmps w

def HoldsR (P : Program) (c : Code) (Q : Exit → St → Prop) (s : St) : Prop :=
  ∀ C0 C m (a : Act) w, SubX C C0 → Rel C m s a.tmps w → Dfr C0 C a.defers → wpR none P c (fun e a' w' => ∃ C' s' m', SubX C' C0 ∧ Q e s' ∧ Rel C' m' s' a'.tmps w' ∧ Dfr C0 C' a'.defers) a w

variable {Q : Exit → St → Prop}

theorem hr_of_hk {c : Code} (h : Holds P c Q s) : HoldsR P c Q s := fun C0 C m a w hS R hd =>
  wpR_mono (h none a.defers C m a w R rfl) fun e a' w' ⟨s', m', h1, h2, h3⟩ => ⟨C, s', m', hS, h1, h2, by rw [h3]; exact hd⟩
theorem hr_seq {x y : Code} (h : HoldsR P x (Thn (HoldsR P y Q) Q) s) : HoldsR P (.seq x y) Q s := by
  intro C0 C m a w hS R hd
  refine wpR_seq (wpR_mono (h C0 C m a w hS R hd) fun e a' w' ⟨C', s', m', h0, h1, h2, h3⟩ => ?_)
  cases e with
  | normal => exact h1 C0 C' m' a' w' h0 h2 h3
  | _ => exact ⟨C', s', m', h0, h1, h2, h3⟩
theorem hr_seqH {x y : Code} (h : Holds P x (Thn (HoldsR P y Q) Q) s) : HoldsR P (.seq x y) Q s := hr_seq (hr_of_hk h)
theorem hr_block {id : Nat} {c : Code} (h : HoldsR P c (InB id Q) s) : HoldsR P (.block id c) Q s := by
  intro C0 C m a w hS R hd
  refine wpR_block (wpR_mono (h C0 C m a w hS R hd) fun e a' w' ⟨C', s', m', h0, h1, h2, h3⟩ => ?_)
  cases e with
  | exit j =>
    simp only [InB, Exit.inBlock] at h1 ⊢
    by_cases e : j = id
    · rw [if_pos e] at h1 ⊢; exact ⟨C', s', m', h0, h1, h2, h3⟩
    · rw [if_neg e] at h1 ⊢; exact ⟨C', s', m', h0, h1, h2, h3⟩
  | _ => exact ⟨C', s', m', h0, h1, h2, h3⟩
theorem ren1_range {n : Nat} {x : AV} (h : sc1 n x = true) : ren1 (List.range n) x = x := by
  have g : ∀ k, k < n → (List.range n).getD k 0 = k := fun k hk => by simp [List.getD, hk]
  cases x <;> simp only [ren1] <;> simp only [sc1, decide_eq_true_eq] at h <;> first | rfl | rw [g _ h] | cases h
theorem ren_range {n : Nat} {x : AV} (h : scA n x = true) : Go.Pv.ren (List.range n) x = x := by
  have gl : ∀ l : List AV, l.all (sc1 n) = true → l.map (ren1 (List.range n)) = l := fun l hl => by
    refine (List.map_congr_left fun y hy => ren1_range ((List.all_eq_true.1 hl) y hy)).trans (List.map_id _)
  cases x with
  | agg l => simp only [Go.Pv.ren]; rw [gl l h]
  | tup l => simp only [Go.Pv.ren]; rw [gl l h]
  | cl f l => simp only [Go.Pv.ren]; rw [gl l h]
  | yv k l vs =>
    simp only [scA, Bool.and_eq_true, decide_eq_true_eq] at h
    simp only [Go.Pv.ren]
    rw [gl l h.2]
    simp [List.getD, h.1]
  | dead => exact ren1_range (n := n) (x := .dead) h
  | p v => exact ren1_range (n := n) (x := .p v) h
  | sl k lo len => exact ren1_range (n := n) (x := .sl k lo len) h
  | ptr k i => exact ren1_range (n := n) (x := .ptr k i) h
  | mptr k => exact ren1_range (n := n) (x := .mptr k) h
  | itv r => exact ren1_range (n := n) (x := .itv r) h

def scH (H : Heap) : Bool := H.all fun | .own c => c.all (scA H.length) | .anc _ _ => false | _ => true
theorem scH_get {H : Heap} (h : scH H = true) {k : Nat} {b : Blk} (hk : H[k]? = some b) : (match b with | .own c => c.all (scA H.length) | .anc _ _ => false | _ => true) = true := by
  have := (List.all_eq_true.1 h) _ (List.mem_of_getElem? hk)
  cases b <;> exact this

theorem LeH_of {π : List Nat} {H : Heap} : ∀ (H1 : Heap) (ks : List Nat), ks.length = H1.length → (∀ (j : Nat) (b : Blk) (k : Nat), H1[j]? = some b → ks[j]? = some k → LeB π H k b) → LeH π H ks H1
  | [], [], _, _ => trivial
  | b :: r, k :: ks, hl, h => ⟨h 0 b k rfl rfl, LeH_of r ks (by simpa using hl) fun j b' k' h1 h2 => h (j + 1) b' k' (by simpa using h1) (by simpa using h2)⟩
  | [], _ :: _, hl, _ => by simp at hl
  | _ :: _, [], hl, _ => by simp at hl

theorem hget_of : ∀ {H : Heap} {k : Nat} {b : Blk}, H[k]? = some b → hget H k = b
  | [], k, b, h => by simp at h
  | x :: r, 0, b, h => by simp at h; simp [hget, h]
  | x :: r, k + 1, b, h => by
    have := hget_of (H := r) (k := k) (b := b) (by simpa using h)
    simpa [hget] using this

theorem LeH_id {H : Heap} (h : scH H = true) : LeH (List.range H.length) H (List.range H.length) H := by
  refine LeH_of H _ (by simp) fun j b k hj hk => ?_
  have hjl := (List.getElem?_eq_some_iff.1 hj).1
  obtain rfl : k = j := by simpa [hjl] using hk.symm
  have hg := hget_of hj
  have hs := scH_get h hj
  cases b with
  | own c =>
    simp only [LeB, hg]
    refine ⟨?_, by simpa using hs⟩
    rw [List.take_length]
    exact (List.map_congr_left fun y hy => ren_range ((List.all_eq_true.1 hs) y hy)).trans (List.map_id _)
  | fro c => exact hg
  | mp kk d v => exact hg
  | lp r => exact hg
  | dead => trivial
  | anc i j => cases hs

theorem putM_other : ∀ (ks : List Nat) (bs H : Heap) (k : Nat), k ∉ ks → k < H.length → (putM H ks bs)[k]? = H[k]?
  | [], bs, H, k, _, hk => by simp only [putM]; rw [List.getElem?_append_left hk]
  | k0 :: ks, [], H, k, _, _ => rfl
  | k0 :: ks, b0 :: bs, H, k, hn, hk => by
    simp only [putM]
    rw [putM_other ks bs _ k (fun h => hn (by simp [h])) (by rw [hset_length]; exact hk), hset_get, if_neg (fun h => hn (by simp [h.1]))]
theorem putM_at : ∀ (ks : List Nat) (bs H : Heap), ks.Nodup → (∀ k ∈ ks, k < H.length) → ks.length ≤ bs.length → ∀ (j : Nat) {b : Blk} {k : Nat}, bs[j]? = some b → (ks ++ List.range' H.length (bs.length - ks.length))[j]? = some k → (putM H ks bs)[k]? = some b
  | [], bs, H, _, _, _, j, b, k, h1, h2 => by
    have hj := (List.getElem?_eq_some_iff.1 h1).1
    simp only [List.nil_append, List.length_nil, Nat.sub_zero] at h2
    rw [List.getElem?_range' hj] at h2
    simp only [Option.some.injEq, Nat.one_mul] at h2
    subst h2
    simp only [putM]
    rw [List.getElem?_append_right (by omega), Nat.add_sub_cancel_left]; exact h1
  | k0 :: ks, [], H, _, _, hl, j, b, k, h1, h2 => by simp at hl
  | k0 :: ks, b0 :: bs, H, hnd, hk, hl, 0, b, k, h1, h2 => by
    simp at h1 h2
    subst h1 h2
    simp only [putM]
    rw [putM_other ks bs _ k0 (List.nodup_cons.1 hnd).1 (by rw [hset_length]; exact hk k0 (by simp)), hset_get, if_pos ⟨rfl, hk k0 (by simp)⟩]
  | k0 :: ks, b0 :: bs, H, hnd, hk, hl, j + 1, b, k, h1, h2 => by
    simp only [putM]
    refine putM_at ks bs _ (List.nodup_cons.1 hnd).2 (fun k hk' => by rw [hset_length]; exact hk k (by simp [hk'])) (by simpa using hl) j (by simpa using h1) ?_
    rw [hset_length]
    simpa using h2

/-- THE STATEMENT 'for x := range f': a loop over a function with captured values. -/
theorem hr_range {go : Operand} {gs pp κ q n : Nat} {assign body : Code} {sl : List (Nat × AV)} {Hs0 Hf : Blk → Heap} {b : Bool} {gf : FuncId} {cap : List AV} {rv : AV} (π : List Nat) (hgo : go = .tmp gs) (hn : s.n = n)
    (h0 : ∀ r0, Le π ⟨n, (gs, .cl gf cap) :: sl, Hs0 (.lp r0)⟩ { s with H := s.H ++ [.lp r0] }) (hπ : π.getD κ 0 = s.H.length) (hκ : κ < q) (hs0 : HoleQ κ Hs0) (hf : HoleQ κ Hf)
    (hcs : ∀ r0, (scH (Hs0 (.lp r0)) && cap.all (scA (Hs0 (.lp r0)).length) && (envA n sl).all (sc1 q)) = true) (hkl : keysLt n sl = true) (hgs : lk sl gs = .dead)
    (hsc : ∀ r0 r1, scQ q rv (Hs0 (.lp r0)) (Hf (.lp r1)) = true)
    (hit : ∀ rec, RecOk rec n pp assign body → FnQ P q gf (.yv κ (envA n sl) rec.tmps :: cap) (Hs0 (.lp rec)) rv (Hf (.lp (recB b rec))))
    (h1 : b = true → Q .normal ⟨n, sl, Hf .dead⟩) (h2 : b = false → Q .ret ⟨n, sl, Hf .dead⟩) : HoldsR P (.rangeFunc go #[pp] assign body) Q s := by
  intro C0 C m a w hS R hd
  subst hgo
  refine wpIn_rangeFunc (F := WF none) (n := 0) fun fn _ => ?_
  obtain ⟨rec, hrec⟩ : ∃ rec : Loop, rec = { state := .ready, pending := none, fn, tmps := a.tmps, params := #[pp], assign, body, defers := w.heap.size } := ⟨_, rfl⟩
  have hok : RecOk rec n pp assign body := by rw [hrec]; exact ⟨rfl, rfl, rfl, rfl, rfl, by rw [← hn]; exact R.size⟩
  obtain ⟨W1, hW1⟩ : ∃ W1, (w.alloc (.deferred (some []))).alloc (.loop rec) = W1 := ⟨_, rfl⟩
  have hsz1 : W1.heap.size = w.heap.size + 2 := by rw [← hW1, World.size_alloc, World.size_alloc]
  have hL1 : W1.heap[w.heap.size + 1]? = some (.loop rec) := by
    rw [← hW1]; have := World.alloc_heap_new (w.alloc (.deferred (some []))) (.loop rec); rwa [World.size_alloc] at this
  have hK1 : W1.heap[w.heap.size]? = some (.deferred (some [])) := by
    rw [← hW1]
    have h1 := (MapKept.heap_alloc (w.alloc (.deferred (some []))) (.loop rec)).2 w.heap.size (by rw [World.size_alloc]; omega)
    rw [h1]; exact World.alloc_heap_new w _
  have hbel : Below w.heap.size w W1 := by
    rw [← hW1]; exact (((Below.refl _ w).alloc (Nat.le_refl _) _).alloc (by rw [World.size_alloc]; omega) _)
  have R1 := R.later hbel
  have R2 := R1.addLp (g := w.heap.size + 1) (r := rec) (R.base _ (by omega)) hL1 fun k rr l hk hl e => by
    obtain ⟨l', a1, a2, a3⟩ := R.mp.2.2.2.1 k rr hk
    rw [hl] at a1; cases a1
    have := (Array.getElem?_eq_some_iff.1 a3).1
    omega
  have R3 := R2.weaken (h0 rec)
  generalize hm3 : mren (mput m s.H.length (some ⟨w.heap.size + 1, 0, 0⟩)) π = m3 at R3
  have hmκ : m3 κ = some ⟨w.heap.size + 1, 0, 0⟩ := by
    have hl : κ < π.length := by
      have := ((h0 rec).2.2.1.get).1
      have h2 := hs0.lt (.lp rec)
      simp only at this
      omega
    rw [← hm3]
    have e : π[κ] = s.H.length := by simpa [List.getD, List.getElem?_eq_getElem hl] using hπ
    simp [mren, List.getElem?_eq_getElem hl, e, mput]
  have hc3 := hcs rec
  rw [Bool.and_eq_true, Bool.and_eq_true] at hc3
  obtain ⟨⟨hsc0, hcap⟩, henv⟩ := hc3
  obtain ⟨hq1, hq0, hna⟩ := scQ_parts (hsc rec (recB b rec))
  -- the call
  have hgv : ∃ vs : Array Value, a.eval (.tmp gs) = .func (.func gf) #[] vs ∧ vs.size = cap.length ∧ ∀ c (h : c < cap.length), AVal (Reads (OK C m3 (Hs0 (.lp rec)) W1) W1) m3 (Hs0 (.lp rec)) cap[c] (vs.getD c undef) := by
    have hv : AVal _ m3 (Hs0 (.lp rec)) (lk ((gs, .cl gf cap) :: sl) gs) (a.tmps.getD gs undef) := R3.slot gs
    simp only [lk, BEq.rfl, cond_true] at hv
    show ∃ vs : Array Value, a.tmps.getD gs undef = _ ∧ _
    generalize a.tmps.getD gs undef = v at hv
    cases hv with
    | cl _ _ vs hl hr => exact ⟨vs, rfl, hl, hr⟩
  obtain ⟨vs, hfe, hvl, hvr⟩ := hgv
  have hLe := LeH_id hsc0
  have hlenv : (envA n sl).length = n := envA_len n sl
  have hlk : ∀ t, lk sl t = .dead ∨ (t < n ∧ sc1 q (lk sl t) = true) := fun t => by
    by_cases ht : t < n
    · refine .inr ⟨ht, ?_⟩
      have := (List.all_eq_true.1 henv) _ (List.getElem_mem (show t < (envA n sl).length by omega))
      rwa [envA_get] at this
    · exact .inl (keysLt_lk hkl t (by omega))
  have hslot : ∀ t, AVal (Reads (OK C m3 (Hs0 (.lp rec)) W1) W1) m3 (Hs0 (.lp rec)) (lk sl t) (a.tmps.getD t undef) := fun t => by
    by_cases e : t = gs
    · rw [e, hgs]; exact .dead _
    · have hv : AVal _ m3 (Hs0 (.lp rec)) (lk ((gs, .cl gf cap) :: sl) t) (a.tmps.getD t undef) := R3.slot t
      simp only [lk] at hv
      rwa [show (gs == t) = false by simpa using Ne.symm e, cond_false] at hv
  have hscm : ∀ {k k' : Nat} {x : AV}, k ≤ k' → sc1 k x = true → sc1 k' x = true := fun {k k' x} hkk h => by
    cases x <;> simp only [sc1, decide_eq_true_eq] at h ⊢ <;> first | omega | cases h
  have hscA : ∀ {k : Nat} {x : AV}, sc1 k x = true → scA k x = true := fun {k x} h => by
    cases x <;> first | exact h | (simp [sc1] at h)
  have hLl : (Hs0 (.lp rec)).length = (List.range (Hs0 (.lp rec)).length).length := by simp
  have hrd : ∀ p v, Reads (OK C m3 (Hs0 (.lp rec)) W1) W1 p v → Reads (OK (subC C m3 (Hs0 (.lp rec)) (List.range (Hs0 (.lp rec)).length) (Hs0 (.lp rec)) W1) (mren m3 (List.range (Hs0 (.lp rec)).length)) (Hs0 (.lp rec)) W1) W1 p v :=
    fun p v h => h.mono (lend_ok (s := ⟨n, (gs, .cl gf cap) :: sl, Hs0 (.lp rec)⟩) hLe)
  have hun : ∀ {x : AV} {v : Value}, AVal (Reads (OK C m3 (Hs0 (.lp rec)) W1) W1) m3 (Hs0 (.lp rec)) x v → scA (Hs0 (.lp rec)).length x = true →
      AVal (Reads (OK (subC C m3 (Hs0 (.lp rec)) (List.range (Hs0 (.lp rec)).length) (Hs0 (.lp rec)) W1) (mren m3 (List.range (Hs0 (.lp rec)).length)) (Hs0 (.lp rec)) W1) W1) (mren m3 (List.range (Hs0 (.lp rec)).length)) (Hs0 (.lp rec)) x v := fun {x v} hv hx => by
    refine AVal.unren (π := List.range (Hs0 (.lp rec)).length) (H := Hs0 (.lp rec)) (m := m3) hrd hLl ?_ (by rw [← hLl]; exact hx)
    rw [ren_range hx]; exact hv
  have hR0 := R3.lend (q := q) (ks := List.range (Hs0 (.lp rec)).length) (avs := .yv κ (envA n sl) rec.tmps :: cap) (vals := #[.func (.yield (w.heap.size + 1)) #[] #[]] ++ vs) hLe (List.nodup_range) hq0 hna (by simp [hvl]; omega) fun t ht => by
    cases t with
    | zero =>
      have e1 : ((#[.func (.yield (w.heap.size + 1)) #[] #[]] ++ vs : Array Value)).getD 0 undef = .func (.yield (w.heap.size + 1)) #[] #[] := by
        simp only [Array.getD_eq_getD_getElem?]
        rw [Array.getElem?_append_left (by simp)]; rfl
      rw [e1]
      refine hun (.yv _ _ _ _ (hs0.lt _) ⟨_, hmκ, rfl⟩ (by rw [hlenv]; exact hok.size) fun c hc => ?_) ?_
      · rw [envA_get]
        have e2 : rec.tmps = a.tmps := by rw [hrec]
        rw [e2]; exact hslot c
      · show (decide (κ < (Hs0 (.lp rec)).length) && (envA n sl).all (sc1 (Hs0 (.lp rec)).length)) = true
        rw [Bool.and_eq_true, decide_eq_true_eq]
        exact ⟨hs0.lt _, List.all_eq_true.2 fun x hx => hscm hq0 ((List.all_eq_true.1 henv) x hx)⟩
    | succ t =>
      have e1 : ((#[.func (.yield (w.heap.size + 1)) #[] #[]] ++ vs : Array Value)).getD (t + 1) undef = vs.getD t undef := by
        simp only [Array.getD_eq_getD_getElem?]
        rw [Array.getElem?_append_right (by simp)]
        simp
      rw [e1]
      have ht2 : t < cap.length := by simpa using ht
      rw [List.getElem_cons_succ]
      exact hun (hvr t ht2) ((List.all_eq_true.1 hcap) _ (List.getElem_mem ht2))
  obtain ⟨⟨fn', hfn', hnm', hbd'⟩, hcalls⟩ := hit rec hok
  refine ⟨w.heap.size + 1, [{ target := .collected w.heap.size, args := #[] }], W1, { target := .fn (.func gf) vs, args := #[.func (.yield (w.heap.size + 1)) #[] #[]] }, W1, gf,
    #[.func (.yield (w.heap.size + 1)) #[] #[]] ++ vs, W1, ?_, ?_, fun _ _ => trivial, ?_, (fun h => by cases h), ?_⟩
  · rw [← hW1, hrec]; exact run_enterLoop_outer _ _ _ _ _
  · simp only [resolve, hfe]
    simp [go_sem]
  · have hnm2 : ¬ fn'.name = "runtime.NumGoroutine" := by simpa using hnm'
    have hbd2 : ¬ fn'.body = none := by intro e; rw [e] at hbd'; simp at hbd'
    simp [invoke, callFunc, hfn', hnm2, hbd2]
  refine (callsIn_wide (n := 0)).2 ((hcalls _ _ W1 _ hR0).mono fun e w' ⟨v, m', he, R5⟩ => ?_)
  subst he
  have hks' : ∀ k ∈ List.range (Hs0 (.lp rec)).length, k < (Hs0 (.lp rec)).length := fun k hk => by simpa using hk
  obtain ⟨m2, R6, _, hm2⟩ := R3.joinQ hLe hks' R5 (hsc rec (recB b rec))
  have hD : ¬ (subC C m3 (Hs0 (.lp rec)) (List.range (Hs0 (.lp rec)).length) (Hs0 (.lp rec)) W1).B w.heap.size := by
    rintro (h | ⟨j, b0, l, a1, a2, a3, a4⟩)
    · omega
    · have hj := (List.getElem?_eq_some_iff.1 a1).1
      have a3 : m3 j = some l := by simpa [mren, hj] using a3
      rw [← a4] at hK1
      cases b0 with
      | own c =>
        rcases R3.blk j c a1 with ⟨_, hn⟩ | ⟨l', cur, e, c1, _, c2, _⟩
        · rw [a3] at hn; cases hn
        · rw [a3] at c1; cases c1
          rw [c2] at hK1; cases hK1
      | mp kk d v =>
        obtain ⟨l', ar, clk, vs, c1, _, c2, _⟩ := R3.mp.1 j kk d v a1
        rw [a3] at c1; cases c1
        rw [c2] at hK1; cases hK1
      | lp rr =>
        obtain ⟨l', c1, _, c2⟩ := R3.mp.2.2.2.1 j rr a1
        rw [a3] at c1; cases c1
        rw [c2] at hK1; cases hK1
      | _ => cases a2
  have hK5 : w'.heap[w.heap.size]? = some (.deferred (some [])) := (R5.below.block _ hD).trans hK1
  -- the state behind the call, its blocks in their places
  generalize hσ : (List.range (Hs0 (.lp rec)).length).take q ++ List.range' (Hs0 (.lp rec)).length ((Hf (.lp (recB b rec))).length - q) = σ at R6
  have htk : (List.range (Hs0 (.lp rec)).length).take q = List.range q := by rw [List.take_range, Nat.min_eq_left hq0]
  have hσl : σ.length = (Hf (.lp (recB b rec))).length := by rw [← hσ, htk]; simp; omega
  have hσk : ∀ k, k < q → σ.getD k 0 = k := fun k hk => by
    rw [← hσ, htk]
    simp only [List.getD_eq_getElem?_getD]
    rw [List.getElem?_append_left (by simpa using hk)]
    simp [hk]
  have hσnd : σ.Nodup := by
    rw [← hσ, htk]
    refine List.nodup_append.2 ⟨List.nodup_range, List.nodup_range', fun x hx y hy e => ?_⟩
    rw [List.mem_range] at hx
    rw [List.mem_range'_1] at hy
    omega
  have hσren : ∀ {x : AV}, sc1 q x = true → Go.Pv.ren σ x = x := fun {x} hx => by
    cases x <;> first | rfl | (simp only [sc1, decide_eq_true_eq] at hx; simp only [Go.Pv.ren, ren1]; rw [hσk _ hx]) | (simp [sc1] at hx)
  have hput : ∀ (j : Nat) (bb : Blk) (k : Nat), (Hf (.lp (recB b rec)))[j]? = some bb → σ[j]? = some k → (putM (kills (Hs0 (.lp rec)) ((List.range (Hs0 (.lp rec)).length).drop q)) ((List.range (Hs0 (.lp rec)).length).take q) ((Hf (.lp (recB b rec))).map (Blk.ren σ)))[k]? = some (Blk.ren σ bb) := by
    intro j bb k hj hk
    refine putM_at _ _ _ (by rw [htk]; exact List.nodup_range) (fun k hk => by rw [kills_length]; rw [htk, List.mem_range] at hk; omega) (by rw [htk]; simp; omega) j (by rw [List.getElem?_map, hj]; rfl) ?_
    rw [kills_length, List.length_map, htk, List.length_range, ← htk, hσ]
    exact hk
  have hsH := hsc rec (recB b rec)
  unfold scQ at hsH
  rw [Bool.and_eq_true, Bool.and_eq_true, Bool.and_eq_true, Bool.and_eq_true, Bool.and_eq_true, Bool.and_eq_true] at hsH
  have hs2 := hsH.1.1.1.1.1.2
  have hLe2 : LeH σ (putM (kills (Hs0 (.lp rec)) ((List.range (Hs0 (.lp rec)).length).drop q)) ((List.range (Hs0 (.lp rec)).length).take q) ((Hf (.lp (recB b rec))).map (Blk.ren σ))) σ (Hf (.lp (recB b rec))) := by
    refine LeH_of _ _ hσl fun j bb k hj hk => ?_
    have hg := hget_of (hput j bb k hj hk)
    have hs := (List.all_eq_true.1 hs2) _ (List.mem_of_getElem? hj)
    cases bb with
    | own c =>
      simp only [LeB, hg, Blk.ren]
      refine ⟨?_, by rw [hσl]; exact hs⟩
      rw [← List.length_map (f := Go.Pv.ren σ), List.take_length]
    | fro c => exact hg
    | mp kk d v => exact hg
    | lp r => exact hg
    | dead => trivial
    | anc i j => cases hs
  have R7 : Rel C (mren m2 σ) ⟨n, [], Hf (.lp (recB b rec))⟩ a.tmps w' := R6.weaken (s1 := ⟨n, [], Hf (.lp (recB b rec))⟩) ⟨rfl, hσnd, hLe2, trivial⟩
  have hlen7 : (Hf (.lp (recB b rec))).length = σ.length := hσl.symm
  have hoW := OK.weaken (C := C) (m := m2) (w := w') hLe2
  have R8 : Rel C (mren m2 σ) ⟨n, sl, Hf (.lp (recB b rec))⟩ a.tmps w' := R7.reslot R7.size fun t => by
    rcases hlk t with e | ⟨ht, hx⟩
    · rw [e]; exact .dead _
    · have hv : AVal _ m2 _ (lk ((gs, .cl gf cap) :: sl) t) (a.tmps.getD t undef) := R6.slot t
      by_cases e : t = gs
      · rw [e, hgs]; exact .dead _
      · simp only [lk] at hv
        rw [show (gs == t) = false by simpa using Ne.symm e, cond_false, ← hσren hx] at hv
        exact hv.unren (fun p v h => h.mono hoW) hlen7 (by rw [hσl]; exact hscA (hscm hq1 hx))
  -- the record
  have hm8 : mren m2 σ κ = some ⟨w.heap.size + 1, 0, 0⟩ := by
    have h1 : κ < σ.length := by omega
    have h2 : σ[κ] = κ := by have := hσk κ hκ; simpa [List.getD, List.getElem?_eq_getElem h1] using this
    simp only [mren, List.getElem?_eq_getElem h1, h2, Option.bind_some]
    rw [hm2 κ (hs0.lt _)]; exact hmκ
  obtain ⟨l8, e1, e2, e3⟩ := R8.mp.2.2.2.1 κ _ (hf.at_ _)
  rw [hm8] at e1; cases e1
  simp only at e3
  have hend := run_endLoop (P := P) e3 (by unfold recB; split <;> simp [hok.state])
  refine ⟨_, _, hend, ?_⟩
  have R9 := (R8.setLp (r' := { recB b rec with state := .exhausted }) (hf.at_ _) hm8)
  simp only [hf.set_] at R9
  have hkill := Rel.kill (a := a) R9 κ
  simp only [hf.set_] at hkill
  generalize hw4 : w'.putObj (w.heap.size + 1) (.loop { recB b rec with state := .exhausted }) = w4 at R9 hkill ⊢
  have hK6 : w4.heap[w.heap.size]? = some (.deferred (some [])) := by rw [← hw4]; exact (World.putObj_heap_other (by omega)).trans hK5
  have R10 := hkill.hold (fun x => x = w.heap.size) (fun x hx => by
    rw [hx]; exact ⟨(Array.getElem?_eq_some_iff.1 hK6).1, fun _ _ _ h => by rw [hK6] at h; cases h⟩) (fun k kk d v l h hl hx => by
    obtain ⟨l', ar, clk, vs, c1, _, c2, _⟩ := hkill.mp.1 k kk d v h
    rw [hl] at c1; cases c1
    rw [hx, hK6] at c2; cases c2) (fun x hx rr h => by rw [hx, hK6] at h; cases h)
  have hS' : SubX (holdC C (fun x => x = w.heap.size) w4) C0 := fun m s tmps w R => hS _ _ _ _ (R.unhold hkill.below)
  have hC0B : C0.B w.heap.size := (hS _ _ _ _ R).base _ (Nat.le_refl _)
  have hdfr : Dfr C0 (holdC C (fun x => x = w.heap.size) w4) ({ target := .collected w.heap.size, args := #[] } :: a.defers) := by
    obtain ⟨d1, d2⟩ := hd
    refine ⟨List.nodup_cons.2 ⟨fun hmem => ?_, d1⟩, fun d hdm => ?_⟩
    · obtain ⟨D, q1, _, _, q4⟩ := d2 _ hmem
      have : D = w.heap.size := by cases q1; rfl
      have h1 := (Array.getElem?_eq_some_iff.1 q4).1
      have h2 := R.below.size
      omega
    · rcases List.mem_cons.1 hdm with rfl | hdm
      · exact ⟨_, rfl, hC0B, fun h => h.2 rfl, hK6⟩
      · obtain ⟨D, q1, q2, q3, q4⟩ := d2 _ hdm
        exact ⟨D, q1, q2, fun h => q3 h.1, (hkill.below.block _ q3).trans q4⟩
  cases b with
  | true =>
    have hp : (recB true rec).pending = none := hok.pending
    rw [hp]
    exact ⟨_, _, _, hS', h1 rfl, R10, hdfr⟩
  | false =>
    have hp : (recB false rec).pending = some .ret := rfl
    rw [hp]
    exact wpR_ret ⟨_, _, _, hS', h2 rfl, R10, hdfr⟩

/-- On the way out: the marks are taken. -/
theorem leaves_marks {fn : Func} {s' : St} {m' : Map} {tmps : Array Value} {C0 : Ctx} {R : Ending → World → Prop} : ∀ (ds : List Deferred) (w : World), Rel C0 m' s' tmps w → ds.Nodup → (∀ d ∈ ds, ∃ D, d = { target := .collected D, args := #[] } ∧ C0.B D ∧ w.heap[D]? = some (.deferred (some []))) →
    (∀ w', Rel C0 m' s' tmps w' → ∃ v, (results fn tmps).run P w' = .ok v w' ∧ R (.returned v) w') → LeavesInM Fence.wide 0 P fn tmps R ds .returning w
  | [], w, RR, _, _, hfin => hfin w RR
  | d :: ds, w, RR, hnd, hds, hfin => by
    obtain ⟨D, e1, e2, e3⟩ := hds d (by simp)
    refine ⟨by simp, .inl ⟨D, w.putObj D (.deferred none), by rw [e1], run_takeDeferred e3, ?_⟩⟩
    refine leaves_marks ds _ (RR.setDef e2 e3) (List.nodup_cons.1 hnd).2 (fun d' hd' => ?_) hfin
    obtain ⟨D', f1, f2, f3⟩ := hds d' (by simp [hd'])
    refine ⟨D', f1, f2, ?_⟩
    have hne : D' ≠ D := fun e => (List.nodup_cons.1 hnd).1 (by rw [e1, ← e, ← f1]; exact hd')
    rw [World.putObj_heap_other hne]; exact f3

theorem fnc_ofR (hT : ∀ t ti, T t = some ti → tiOf P t = some ti) {f : FuncId} {fn : Func} {c : Code} {args : List PV} {r : PV} (hf : P.funcs[f]? = some fn) (hb : fn.body = some c) (hnm : (fn.name == "runtime.NumGoroutine") = false) (hn : args.length ≤ fn.ntmps)
    (h : HoldsR P c (Post T fn.results.toList r) (entry fn.ntmps args)) : FnC P f args r := by
  refine ⟨⟨fn, hf, hnm, by rw [hb]; rfl⟩, fun okA w vals hok hsz hrd => (callsIn_wide (n := 0)).1 (callsIn_of_wp_marks hf hb trivial ?_)⟩
  have hslot : ∀ t, (vals ++ Array.replicate (fn.ntmps - vals.size) undef).getD t undef = if t < vals.size then vals.getD t undef else undef := by
    intro t
    simp only [Array.getD_eq_getD_getElem?]
    by_cases ht : t < vals.size
    · rw [if_pos ht, Array.getElem?_append_left ht]
    · rw [if_neg ht, Array.getElem?_append_right (by omega), Array.getElem?_replicate]
      split <;> rfl
  have R : Rel (fresh okA w) (fun _ => none) (entry fn.ntmps args) (vals ++ Array.replicate (fn.ntmps - vals.size) undef) w := by
    have hOK : ∀ b, okA b → OK (fresh okA w) (fun _ => none) [] w b := fun b hb => ⟨.inl hb, hok.1 b hb, fun k c l h => by simp at h⟩
    refine ⟨fun g l hg => (hok.2 g l hg).mono hOK, BelowP.refl _ _, fun _ h => h, by simp [entry]; omega, fun k k' c c' l l' h => by simp [entry] at h, fun k c h => by simp [entry] at h, fun k c h => by simp [entry] at h, fun t => ?_, fun k kk d v h => by simp [entry] at h, fun k k' kk d v kk' d' v' l l' h => by simp [entry] at h, fun k i j h => by simp [entry] at h, fun k r h => by simp [entry] at h, fun k k' r r' l l' h => by simp [entry] at h⟩
    rw [hslot]
    unfold St.get entry
    simp only
    rw [ent_lk]
    simp only [Nat.zero_le, if_true, Nat.sub_zero]
    by_cases ht : t < args.length
    · rw [List.getElem?_eq_getElem ht, if_pos (by omega)]
      exact .p _ _ ((hrd t ht).mono hOK)
    · rw [List.getElem?_eq_none (by omega)]
      exact .dead _
  refine wpR_mono (r := none) (h _ _ _ { tmps := vals ++ Array.replicate (fn.ntmps - vals.size) undef, defers := [] } w (fun _ _ _ _ R => R) R ⟨List.nodup_nil, fun d h => by cases h⟩) fun e a' w' ⟨C', s', m', hS, h1, h2, h3⟩ => ?_
  have R0 := hS _ _ _ _ h2
  have key : endA T fn.results.toList r s' → LeavesInM Fence.wide 0 P fn a'.tmps (fun e w' => ∃ v, e = .returned v ∧ Below w.heap.size w w' ∧ Reads (okN okA w w') w' r v) a'.defers .returning w' := fun he => by
    refine leaves_marks (s' := s') (m' := m') a'.defers w' R0 h3.1 (fun d hd => ?_) fun w2 R2 => ?_
    · obtain ⟨D, q1, q2, q3, q4⟩ := h3.2 d hd
      exact ⟨D, q1, q2, (h2.below.block _ q3).trans q4⟩
    · unfold endA at he
      split at he
      · rename_i p l hl
        split at he
        · rename_i q pv b hpk
          obtain ⟨hp, hq, rfl⟩ := he
          obtain ⟨vs, e1, e2, e3⟩ := rvsA_run hT R2 fn.results.toList hl hp
          have hv := mkTup_val (w := w2) e2 e3
          have hpv := peekA_val R2 hv hpk hq
          refine ⟨_, ?_, _, rfl, R2.below.below (fun _ h => h), norm_reads hpv.1⟩
          rw [results_eq, Array.mapM_eq_mapM_toList]
          simp only [Sem.run_bind, Sem.run_map]
          rw [e1]
          simp only [Result.andThen_ok]
          rfl
        · exact he.elim
      · exact he.elim
  cases e with
  | normal => exact key h1
  | ret => exact key h1
  | _ => exact h1.elim
end
end Go.Pv

/-
  Calls that hand out fresh rows of plain values; functions with captured rows of the call's own. Conditions: none.
-/
set_option linter.all false
namespace Go.Pv
open Go.RowKit

section
variable {P : Program} {s : St}

/-- A contract whose result lies in memory that is new: whatever the arguments may be. -/
def FnF (P : Program) (f : FuncId) (args : List PV) (r : PV) : Prop :=
  Fun P f ∧ ∀ (okA : Nat → Prop) (w : World) (vals : Array Value), LaidW okA w → vals.size = args.length → (∀ i (h : i < args.length), Reads okA w args[i] (vals.getD i undef)) →
    Calls P f vals w fun e w' => ∃ v, e = .returned v ∧ Go.Pv.Below w.heap.size w w' ∧ Reads (fun b => w.heap.size ≤ b ∧ b < w'.heap.size) w' r v

/-- Plain data: no memory. -/
def PV.sc : PV → Bool
  | .int _ _ => true
  | .bool _ => true
  | .str _ => true
  | _ => false

theorem sc_reads {ok ok' : Nat → Prop} {w : World} {p : PV} {v : Value} (h : Reads ok w p v) (hs : p.sc = true) : Reads ok' w p v := by
  cases h <;> simp [PV.sc] at hs
  · exact .int _ _
  · exact .bool _
  · exact .str _

theorem FnG_fnf {f : FuncId} {args l : List PV} (h : FnG P f args (.sl 0 0 l.length) [.own (opl l)]) (hsc : l.all PV.sc = true) : FnF P f args (.list l) := by
  have hone : l.all PV.one = true := List.all_eq_true.2 fun x hx => by
    have := (List.all_eq_true.1 hsc) x hx
    cases x <;> simp [PV.sc] at this <;> rfl
  refine ⟨h.1, fun okA w vals h1 h2 h3 => (h.2 okA w vals h1 h2 h3).mono fun e w' ⟨v, m', he, hbl, ho⟩ => ⟨v, he, hbl, ?_⟩⟩
  cases ho.val with
  | sl _ _ _ _ hk hs =>
    rcases hs with ⟨h0, ad, rfl⟩ | ⟨lc, cap, hm, rfl, hc1, hc2⟩
    · have : l = [] := List.eq_nil_of_length_eq_zero h0
      subst this
      exact .list0 _ _ fun _ => rfl
    · rcases ho.blk 0 (opl l) rfl with ⟨hn, _⟩ | ⟨l', cur, e', hm2, hB, hh, hs1, hs3, hs2, hcells⟩
      · have : l = [] := List.map_eq_nil_iff.1 hn
        subst this
        exact .list0 _ _ fun h => by cases h
      · rw [hm] at hm2; cases hm2
        rw [opl_length] at hs2
        refine row_reads rfl hone ⟨hB, (Array.getElem?_eq_some_iff.1 hh).1⟩ hc1 (fun j => cur.getD (lc.o + j) undef) (fun j hj => ?_) fun j hj => ?_
        · have : lc.o + 0 + j = lc.o + j := by omega
          rw [this]; exact cell_of hh (by omega)
        · have := hcells j (by rw [opl_length]; exact hj)
          have e2 : (opl l)[j]'(by rw [opl_length]; exact hj) = .p l[j] := by simp [opl]
          rw [e2] at this
          exact sc_reads this.p_inv ((List.all_eq_true.1 hsc) _ (List.getElem_mem hj))

theorem call_doesF {o : Oper} {fo : Operand} {args : Array Operand} {ts : Array TypeId} (ho : o.op = .call { callee := .value fo, args := args, argTypes := ts }) {g : FuncId} {avs : List PV} {p : Prop} {b : Bool} {r : PV}
    (hc : FnF P g avs r) (hcall : callA s fo args = some (g, avs, p, b)) (hp : p) : DoesW P o s (.p r) s.H := by
  intro C m a w K Q R hK
  unfold callA at hcall
  split at hcall
  · rename_i g' cap hf
    split at hcall <;> simp only [Option.some.injEq, Prod.mk.injEq, reduceCtorEq] at hcall
    rename_i p' pvs b' hpl
    obtain ⟨rfl, rfl, rfl, rfl⟩ := hcall
    have hfv := R.ev fo
    rw [hf] at hfv
    generalize hfe : a.eval fo = fv at hfv
    have hfv := hfv.p_inv
    cases hfv with
    | fn _ _ vs hcl hcr =>
      obtain ⟨⟨fn, hfn, hnm, hbd⟩, hcalls⟩ := hc
      obtain ⟨e1, e2, e3⟩ := peekList_val (C := C) (m := m) (w := w) (H := s.H) (fun {x v p pv b} (hx : AVal (Reads (OK C m s.H w) w) m s.H x v) h hp => peekG_val R hx h hp) (args.toList.map s.ev) (fun c => (args.toList.map a.eval).getD c undef) (fun c hc => by
        simp only [List.length_map] at hc
        have := R.ev (args.toList[c])
        simpa [List.getD, List.getElem?_map, List.getElem?_eq_getElem hc] using this) hpl hp
      simp only [List.length_map] at e1
      have hvals : ∀ i (h : i < (pvs ++ cap).length), (args.map a.eval ++ vs).getD i undef = if i < pvs.length then (args.toList.map a.eval).getD i undef else vs.getD (i - pvs.length) undef := by
        intro i hi
        simp only [Array.getD_eq_getD_getElem?]
        by_cases hip : i < pvs.length
        · rw [if_pos hip, Array.getElem?_append_left (by simp at e1 ⊢; omega)]
          simp [List.getD]
        · rw [if_neg hip, Array.getElem?_append_right (by simp at e1 ⊢; omega)]
          congr 2
          simp at e1 ⊢; omega
      have hrun : (execOp a.eval o).run P w = .ok (.enter g' (args.map a.eval ++ vs)) w := by
        have hnm' : ¬ fn.name = "runtime.NumGoroutine" := by simpa using hnm
        have hbd' : ¬ fn.body = none := by intro e; rw [e] at hbd; simp at hbd
        simp [execOp, ho, resolve, hfe, Deferred.ofValue, invoke, callFunc, hfn, hnm', hbd']
      refine opR_of_wp (by first | rfl | (rw [ho]; rfl)) ?_
      unfold Oper.wp
      rw [hrun]
      simp only [Oper.upon]
      have hsz : (args.map a.eval ++ vs).size = (pvs ++ cap).length := by simp at e1 ⊢; omega
      refine (hcalls (fun b => b < w.heap.size) w _ R.laidLt hsz fun i hi => ?_).mono fun e w' ⟨v, he, hbl, hv⟩ => ?_
      · rw [hvals i hi]
        by_cases hip : i < pvs.length
        · rw [if_pos hip, List.getElem_append_left hip]; exact (e2 i hip).mono fun b hb => hb.2
        · rw [if_neg hip, List.getElem_append_right (by omega)]; exact (hcr _ (by simp at hi; omega)).mono fun b hb => hb.2.1
      · subst he
        refine hK v m w' (R.later hbl) (.p _ _ (hv.mono fun b hb => ⟨.inr (R.base _ hb.1), hb.2, fun k c l hk hl e' => ?_⟩))
        have := (R.wrLt hk rfl hl).2
        have := hb.1
        omega
  · cases hcall

theorem call_locF {o : Oper} {fo : Operand} {args : Array Operand} {ts : Array TypeId} (ho : o.op = .call { callee := .value fo, args := args, argTypes := ts }) {g : FuncId} {avs : List PV} {p : Prop} {b : Bool} {r : PV}
    (hc : FnF P g avs r) (hcall : callA s fo args = some (g, avs, p, b)) (hp : p) : Loc1 P o s (.p r) s.H := by
  refine ⟨fun s2 hn ha hH => ?_, fun hf => ?_, fun _ => rfl⟩
  · have := callA_congr (ts := ts) (s := s) (s2 := s2) (fo := fo) (args := args) (by rw [← ho]; exact ha) hH
    rw [hcall] at this
    rw [← hH]
    exact call_doesF ho hc this hp
  · rw [ho] at hf; simp [isT] at hf

theorem runs_callF {draw : Bool} {all : Array Oper} {rest : List Oper} {K : St → Prop} {dst : Option Tmp} {ty : TypeId} {pos : String} {aft : Array Edge} {gd : Option (Nat × Bool)} {fo : Operand} {args : Array Operand} {ts : Array TypeId} {g : FuncId} {avs : List PV} {p : Prop} {b : Bool} {r : PV}
    (hc : FnF P g avs r) (hg : guardA all s { dst := dst, op := .call { callee := .value fo, args := args, argTypes := ts }, type := ty, pos := pos, after := aft, guard := gd } = some true)
    (hcall : callA s fo args = some (g, avs, p, b)) (hd : dstOk s dst) (hp : p) (h : Runs P draw all rest K (s.put dst (.p r))) :
    Runs P draw all ({ dst := dst, op := .call { callee := .value fo, args := args, argTypes := ts }, type := ty, pos := pos, after := aft, guard := gd } :: rest) K s := by
  obtain ⟨s', hr, hK⟩ := h
  exact ⟨s', .cons (.op s (.p r) s.H hg (dstOk_spec hd) (call_doesF rfl hc hcall hp) fun _ => call_locF rfl hc hcall hp) hr, hK⟩

end

/-- A function with captured values, of whatever make. -/
theorem makeCl_does {P : Program} {s : St} {o : Oper} {f : FuncId} {first : Array Operand} {caps : Array Operand} (ho : o.op = .makeFunc (.func f) first caps) (hf : first.isEmpty = true) : DoesW P o s (.cl f (caps.toList.map s.ev)) s.H := by
  intro C m a w K Q R hK
  have hfe : first = #[] := by simpa using hf
  have hrun : (execOp a.eval o).run P w = .ok (.value (.func (.func f) #[] (caps.map a.eval))) w := by
    simp [execOp, ho, hfe, Instr.makeFunc]
  refine opR_of_wp (by first | rfl | (rw [ho]; rfl)) ?_
  unfold Oper.wp
  rw [hrun]
  refine hK _ m w R (.cl _ _ _ (by simp) fun c hc => ?_)
  have hc' : c < caps.size := by simpa using hc
  have e1 : (caps.map a.eval).getD c undef = a.eval caps[c] := by simp [Array.getD_eq_getD_getElem?, hc']
  have e2 : (caps.toList.map s.ev)[c] = s.ev caps[c] := by simp
  rw [e1, e2]
  exact R.ev _
end Go.Pv
namespace Go.Proofs.YtboadfahlflmhaaDoor
open Go.Pv

end Go.Proofs.YtboadfahlflmhaaDoor

/-
  Walks: all homomorphisms, handed out one by one. Conditions: none.
-/
set_option linter.all false
namespace Go.Pv
open Go.RowKit

theorem fnc_of_p {P : Program} {f : FuncId} {args : List PV} {pv : PV} (h : FnG P f args (.p pv) []) (hf : pv.flatOnly = true) : FnC P f args pv :=
  ⟨h.1, fun okA w vals h1 h2 h3 => (h.2 okA w vals h1 h2 h3).mono fun e w' ⟨v, m', he, hbl, ho⟩ => ⟨v, he, hbl, flatOnly_reads ho.val.p_inv hf⟩⟩

/-- What a loop over a function does, round by round: what its blocks hold; whether it goes on; how it goes on. -/
structure Prot (σ : Type) where
  c4 : σ → PV
  c51 : σ → PV
  c52 : σ → PV
  R : σ → List PV
  go : σ → PV → Bool
  nx : σ → PV → σ
  ok : σ → Prop
  okx : PV → Prop
  ok_nx : ∀ i x, ok i → okx x → go i x = true → ok (nx i x)
  ones : ∀ i, ok i → (R i).all PV.one = true

variable {σ : Type}
def foldS (p : Prot σ) : σ → List PV → σ × Bool
  | i, [] => (i, true)
  | i, x :: xs => if p.go i x then foldS p (p.nx i x) xs else (p.nx i x, false)
theorem foldS_app (p : Prot σ) : ∀ (i : σ) (xs ys : List PV), foldS p i (xs ++ ys) = if (foldS p i xs).2 then foldS p (foldS p i xs).1 ys else foldS p i xs
  | i, [], ys => by simp [foldS]
  | i, x :: xs, ys => by
    simp only [List.cons_append, foldS]
    split
    · exact foldS_app p _ xs ys
    · rfl
theorem foldS_ok (p : Prot σ) : ∀ (i : σ) (xs : List PV), p.ok i → (∀ x ∈ xs, p.okx x) → (foldS p i xs).2 = true → p.ok (foldS p i xs).1
  | i, [], h, _, _ => h
  | i, x :: xs, h, hx, hb => by
    simp only [foldS] at hb ⊢
    split at hb
    · rename_i hg
      rw [if_pos hg]
      exact foldS_ok p _ xs (p.ok_nx i x h (hx x (by simp)) hg) (fun y hy => hx y (by simp [hy])) hb
    · cases hb

/-- The blocks of who loops. -/
def HU (p : Prot σ) (i : σ) (b : Blk) : Heap := [.own [.p (p.c4 i)], .own [.p (p.c51 i), .p (p.c52 i)], .own [.sl 4 0 (p.R i).length], b, .own (opl (p.R i))]

/-- All rounds are as told. -/
def Rounds (P : Program) (p : Prot σ) (rec : Loop) (l : List AV) : Prop := ∀ i x, p.ok i → p.okx x → YldQ P 4 3 rec l x (HU p i (.lp rec)) (.p (.bool (p.go i x))) (HU p (p.nx i x) (.lp (recB (p.go i x) rec)))
end Go.Pv
namespace Go.Proofs.YtboadfahlflmhaaDoor
open Go.Pv

section
variable {n e N d : Nat} {m M : List Int}
open Classical in
/-- Where things that make the group go so: the homomorphism, if there is one. -/
noncomputable def hlf (n : Nat) (f : Nat → Nat → Nat) (N : Nat) (g : Nat → Nat → Nat) (L T : List Nat) : List (List Int) := if h : ∃ φ, Ext n f N g L T φ then [tbm n (Classical.choose h)] else []
/-- All that come, where some places are chosen. -/
noncomputable def hsq (n : Nat) (f : Nat → Nat → Nat) (e N : Nat) (g : Nat → Nat → Nat) (d : Nat) (L : List Nat) : List Nat → List Nat → List (List Int)
  | [], t => hlf n f N g L t
  | x :: r, t => ((List.range N).filter fun y => decide (ord n f e x % ord N g d y = 0)).flatMap fun y => hsq n f e N g d L r (t ++ [y])
/-- Up to a place. -/
noncomputable def hsu (n : Nat) (f : Nat → Nat → Nat) (e N : Nat) (g : Nat → Nat → Nat) (d : Nat) (L r t : List Nat) (x y : Nat) : List (List Int) :=
  ((List.range y).filter fun y => decide (ord n f e x % ord N g d y = 0)).flatMap fun y => hsq n f e N g d L r (t ++ [y])
def pls (l : List (List Int)) : List PV := l.map fun w => .list (il w)
theorem pls_app (a b : List (List Int)) : pls (a ++ b) = pls a ++ pls b := by simp [pls]
theorem hsu_succ {f g : Nat → Nat → Nat} {L r t : List Nat} {x y : Nat} : hsu n f e N g d L r t x (y + 1) = if ord n f e x % ord N g d y = 0 then hsu n f e N g d L r t x y ++ hsq n f e N g d L r (t ++ [y]) else hsu n f e N g d L r t x y := by
  unfold hsu
  rw [List.range_succ, List.filter_append, List.flatMap_append]
  by_cases h : ord n f e x % ord N g d y = 0
  · rw [if_pos h]; simp [h]
  · rw [if_neg h]; simp [h]

/-- A row that is filled so far. -/
def rwd (t : List Nat) (n : Nat) : List AV := opl (il (nl t)) ++ List.replicate (n - t.length) .dead
theorem rwd_len {t : List Nat} {n : Nat} (h : t.length ≤ n) : (rwd t n).length = n := by
  simp [rwd, opl_length, il_length, nl_len]; omega
theorem rwd_full {t : List Nat} {n : Nat} (h : t.length = n) : rwd t n = opl (il (nl t)) := by simp [rwd, h]
theorem rwd_ren (t : List Nat) (n : Nat) (π : List Nat) : (rwd t n).map (Go.Pv.ren π) = rwd t n := by
  rw [rwd, List.map_append, opl_ren, List.map_replicate]; rfl
theorem rwd_sc (t : List Nat) (n k : Nat) : (rwd t n).all (scA k) = true := by
  rw [rwd, List.all_append, opl_sc, List.all_replicate]; simp [scA, sc1]
theorem rwd_set {t : List Nat} {n y : Nat} (h : t.length < n) : (rwd t n).set t.length (.p (.int .i64 ((y : Nat) : Int))) = rwd (t ++ [y]) n := by
  have e1 : (opl (il (nl t))).length = t.length := by simp [opl_length, il_length, nl_len]
  obtain ⟨k, rfl⟩ : ∃ k, n = t.length + 1 + k := ⟨n - (t.length + 1), by omega⟩
  rw [rwd, rwd, List.set_append_right _ _ (by omega), e1, Nat.sub_self, show t.length + 1 + k - t.length = k + 1 by omega, List.replicate_succ, List.set_cons_zero,
    List.length_append, List.length_cons, List.length_nil, show t.length + 1 + k - (t.length + (0 + 1)) = k by omega, nl_snoc]
  simp [opl, il]
theorem rwd_get {t : List Nat} {n j : Nat} (h : j < t.length) : (rwd t n)[j]? = some (.p (.int .i64 ((t.getD j 0 : Nat) : Int))) := by
  rw [rwd, List.getElem?_append_left (by rw [opl_length, il_length, nl_len]; exact h)]
  simp [opl, il, nl, List.getElem?_eq_getElem h]
theorem rwd_dead {t : List Nat} {n j : Nat} (h : t.length ≤ j) (hn : j < n) : (rwd t n)[j]? = some .dead := by
  rw [rwd, List.getElem?_append_right (by rw [opl_length, il_length, nl_len]; exact h), opl_length, il_length, nl_len, List.getElem?_replicate, if_pos (by omega)]
/-- Back to what stood. -/
theorem hk_back {P : Program} {Q : Exit → St → Prop} {s : St} {c : Code} (k : Nat) {t : List Nat} {y n : Nat} (hk : hget s.H k = .own (rwd (t ++ [y]) n)) (hl : t.length < n) (h : Holds P c Q { s with H := hset s.H k (.own (rwd t n)) }) : Holds P c Q s := by
  have hl1 : (t ++ [y]).length ≤ n := by simp; omega
  refine hk_cells k hk (by rw [rwd_len (by omega), rwd_len hl1]) (fun C m tmps w R j h1 h2 v hv => ?_) h
  by_cases hj : j < t.length
  · have e : (rwd (t ++ [y]) n)[j] = (rwd t n)[j] := Option.some.inj (by
      rw [← List.getElem?_eq_getElem h1, ← List.getElem?_eq_getElem h2, rwd_get hj, rwd_get (by simp; omega)]
      simp [List.getElem?_append_left hj])
    rw [← e]; exact hv
  · have e : (rwd t n)[j] = .dead := Option.some.inj (by rw [← List.getElem?_eq_getElem h2, rwd_dead (by omega) (by rw [rwd_len (by omega)] at h2; exact h2)])
    rw [e]; exact .dead _

variable {σ : Type}
/-- The blocks of who searches. -/
def HN (p : Prot σ) (n : Nat) (m : List Int) (N : Nat) (M : List Int) (L : List Nat) (lN : List AV) (vs : Array Value) (t : List Nat) (i : σ) (b : Blk) : Heap :=
  [.own [.sl 7 0 L.length], .own [.yv 6 lN vs], .own [.cl 129 [.p (.ptr [.list (il (nl L))]), .p (.ptr [.int .i64 n, .list (il m)]), .p (.ptr [.int .i64 N, .list (il M)]), .ptr 0 0, .ptr 1 0, .ptr 2 0]],
   .own [.p (p.c4 i)], .own [.p (p.c51 i), .p (p.c52 i)], .own [.sl 8 0 (p.R i).length], b, .own (rwd t L.length), .own (opl (p.R i))]

def NextC (p : Prot σ) (n : Nat) (m : List Int) (e N : Nat) (M : List Int) (d : Nat) (L : List Nat) (rec : Loop) (lN : List AV) (r t : List Nat) (i : σ) : Prop :=
  FnQ Tryd.prog 8 129 [.p (.int .i64 t.length), .p (.ptr [.list (il (nl L))]), .p (.ptr [.int .i64 n, .list (il m)]), .p (.ptr [.int .i64 N, .list (il M)]), .ptr 0 0, .ptr 1 0, .ptr 2 0]
    (HN p n m N M L lN rec.tmps t i (.lp rec)) (.p (.bool (foldS p i (pls (hsq n (op m n) e N (op M N) d L r t))).2)) (HN p n m N M L lN rec.tmps t (foldS p i (pls (hsq n (op m n) e N (op M N) d L r t))).1 (.lp (recB (foldS p i (pls (hsq n (op m n) e N (op M N) d L r t))).2 rec)))

theorem sc1_up {a b : Nat} {x : AV} (h : a ≤ b) (hx : sc1 a x = true) : sc1 b x = true := by
  cases x <;> simp [sc1] at hx ⊢ <;> omega
theorem all_up {a b : Nat} {l : List AV} (h : a ≤ b) (hx : l.all (sc1 a) = true) : l.all (sc1 b) = true := by
  rw [List.all_eq_true] at hx ⊢
  exact fun x hm => sc1_up h (hx x hm)
theorem fix1 {x : AV} {π : List Nat} (h : sc1 4 x = true) (hπ : π.take 7 = [0, 1, 2, 3, 4, 5, 6]) : sc1 7 (ren1 [3, 4, 5, 6, 8] x) = true ∧ ren1 π (ren1 [3, 4, 5, 6, 8] x) = ren1 [3, 4, 5, 6, 8] x := by
  have hg : ∀ k, k < 4 → [3, 4, 5, 6, 8].getD k 0 < 7 ∧ π.getD ([3, 4, 5, 6, 8].getD k 0) 0 = [3, 4, 5, 6, 8].getD k 0 := fun k hk => by
    have e : ∀ j, j < 7 → π.getD j 0 = j := fun j hj => by
      have := congrArg (fun l => l.getD j 0) hπ
      simp only [List.getD_eq_getElem?_getD, List.getElem?_take, hj, if_true] at this ⊢
      rw [this]
      exact (show ∀ j, j < 7 → ([0, 1, 2, 3, 4, 5, 6] : List Nat)[j]?.getD 0 = j by decide) j hj
    have : ∀ k, k < 4 → [3, 4, 5, 6, 8].getD k 0 < 7 := by decide
    exact ⟨this k hk, e _ (this k hk)⟩
  cases x <;> simp only [sc1, decide_eq_true_eq] at h <;> first | (cases h; done) | (simp only [ren1, sc1, decide_eq_true_eq, (hg _ h).2]; exact ⟨(hg _ h).1, trivial⟩) | exact ⟨rfl, rfl⟩
theorem fixL {l lN : List AV} (hl : l.all (sc1 4) = true) (hlN : l.map (ren1 [3, 4, 5, 6, 8]) = lN) : lN.all (sc1 7) = true ∧ ∀ π : List Nat, π.take 7 = [0, 1, 2, 3, 4, 5, 6] → lN.map (ren1 π) = lN := by
  rw [List.all_eq_true] at hl
  subst hlN
  refine ⟨?_, fun π hπ => ?_⟩
  · rw [List.all_eq_true]
    intro y hy
    obtain ⟨x, hx, rfl⟩ := List.mem_map.1 hy
    exact (fix1 (π := [0, 1, 2, 3, 4, 5, 6]) (hl x hx) rfl).1
  · rw [List.map_map]
    exact List.map_congr_left fun x hx => (fix1 (hl x hx) hπ).2
theorem recB_true (rec : Loop) : recB true rec = rec := rfl

set_option maxHeartbeats 8000000 in
set_option maxRecDepth 20000 in
theorem next_leaf1 (p : Prot σ) (h : GT n m n e) (h' : GT N M N d) (L : List Nat) (hL : L = gl n (op m n) e n) {rec : Loop} (hrp : rec.params.size = 1) {l lN : List AV} (hY : Rounds Tryd.prog p rec l) (hokx : ∀ φ, Hmo n (op m n) N (op M N) φ → p.okx (.list (il (tbm n φ))))
    (hl : l.all (sc1 4) = true) (hlN : l.map (ren1 [3, 4, 5, 6, 8]) = lN) (t : List Nat) (i : σ) (htl : t.length = L.length) (hty : ∀ y ∈ t, y < N) (hi : p.ok i) (hex : ∃ φ, Ext n (op m n) N (op M N) L t φ) : NextC p n m e N M d L rec lN [] t i := by
  have hn := h.2.1.big
  have hpos : 0 < n := h.2.1.pos
  have hll := gl_len n (op m n) e n
  rw [← hL] at hll
  have hLlt := gl_lt n (op m n) e n
  have hLg := gl_gen n (op m n) e h.2.2
  rw [← hL] at hLlt hLg
  have hF : ∀ i, i < L.length → L.getD i 0 < n := fun i hi => hLlt _ (by simp [List.getD, List.getElem?_eq_getElem hi])
  have hT : ∀ i, i < L.length → t.getD i 0 < N := fun i hi => hty _ (by simp [List.getD, List.getElem?_eq_getElem (show i < t.length by omega)])
  have hnt := nl_len t
  have hnL := nl_len L
  have hone := p.ones i hi
  have hnn : (nl L).length = (nl t).length := by omega
  have hlS := fixL hl hlN
  unfold NextC
  have hs : hsq n (op m n) e N (op M N) d L [] t = [tbm n (Classical.choose hex)] := by unfold hsq hlf; rw [dif_pos hex]
  have hφ := Classical.choose_spec hex
  generalize Classical.choose hex = φ at hs hφ
  have hsp := spread_yes h h' L t htl.symm (by omega) hF hT hLg hφ
  have hpl : pls (hsq n (op m n) e N (op M N) d L [] t) = [.list (il (tbm n φ))] := by rw [hs]; rfl
  have hY1 := hY i _ hi (hokx φ hφ.1)
  have htb := tbm_len n φ
  have hne : il (tbm n φ) ≠ [] := by intro hh; have := congrArg List.length hh; rw [il_length, htb] at this; simp at this; omega
  rw [hpl]
  have hf1 : foldS p i [PV.list (il (tbm n φ))] = (p.nx i (.list (il (tbm n φ))), p.go i (.list (il (tbm n φ)))) := by
    simp only [foldS]
    split <;> simp_all
  rw [hf1]
  unfold HU at hY1
  simp only
  refine fnq_of (q := 8) tab_ok Tryd.func129 rfl (by kernel_rfl) (by rw [Tryd.ntmps129]; exact Nat.le_add_left 7 _) ?_; rw [Tryd.ntmps129]; simp only [ancs, entA, List.length_cons, List.length_nil, List.cons_append, List.nil_append, Nat.reduceAdd, Nat.zero_add]
  simp only [HN, rwd_full htl, List.append_nil, List.cons_append, List.nil_append]
  rw [show L.length = (nl t).length by omega]
  refine qm ?_
  refine hk_region fun K hK => runs_eval tab_ok ?_
  simp only [ev0, evA, evB, evP, fl, gp, tab, simprocAttr, reduceCtorEq, reduceIte]
  refine fin_run trivial (hK _ ?_) <;> clear hK <;> clear K
  refine qa (qm (qm ?_))
  refine hk_region fun K hK => runs_eval tab_ok ?_
  simp only [ev0, evA, evB, evP, fl, gp, tab, simprocAttr, reduceCtorEq, reduceIte, il_length, hnn]
  refine fin_run ?_ (hK _ ?_) <;> clear hK <;> clear K
  · (first | exact trivial | omega | (simp only [In64] at *; omega) | (simp [In64] at *; omega) | (simp_all; done) | skip)
  refine qa ?_
  refine hk_cond rfl (fun hC1 => ?_) (fun hC1 => ?_)
  · (try simp only [nhs] at hC1)
    refine qm ?_
    refine hk_region fun K hK => runs_eval tab_ok ?_
    simp only [ev0, evA, evB, evP, fl, gp, tab, simprocAttr, reduceCtorEq, reduceIte]
    refine fin_stop ?_ (runs_callF (FnG_fnf hsp (by simp [il, PV.sc])) rfl (by simp only [callA, peekList, peekG, peekS, List.map_cons, List.map_nil, List.append_nil, enA, ev0, evA, evB, evP, fl, gp, tab, simprocAttr, reduceCtorEq, reduceIte, List.drop_zero, ol_drop, ol_take, take_len, ol_allP, il_all, il_length]; rfl) (by simp only [dstOk, Nat.reduceLT]) ?_ (runs_eval tab_ok ?_))
    · (first | exact trivial | omega | (simp only [In64] at *; omega) | (simp [In64] at *; omega) | (simp_all; done) | skip)
    · (first | exact trivial | omega | (simp only [In64] at *; omega) | (simp [In64] at *; omega) | (simp_all; done) | skip)
    simp only [ev0, evA, evB, evP, fl, gp, tab, simprocAttr, reduceCtorEq, reduceIte]
    refine fin_run ?_ (hK _ ?_) <;> clear hK <;> clear K
    · (first | exact trivial | omega | (simp only [In64] at *; omega) | (simp [In64] at *; omega) | (simp_all; done) | skip)
    refine qa (qm ?_)
    refine hk_region fun K hK => runs_eval tab_ok ?_
    simp only [ev0, evA, evB, evP, fl, gp, tab, simprocAttr, reduceCtorEq, reduceIte, binA.eq_def, Option.map_some]
    refine fin_stop ?_ (runs_yield [3, 4, 5, 6, 8] (hY1) hrp rfl rfl rfl ?_ (by simp only [leA, ev0, evA, evB, evP, fl, gp, tab, simprocAttr, reduceCtorEq, reduceIte]; first | trivial | (simp only [ll_takeL]; first | trivial | (repeat constructor; done)) | (repeat constructor)) (by decide) (by first | rfl | (simp only [List.length_cons, List.length_nil, List.length_append]; decide)) (by first | rfl | (simp [scQ, scA, sc1, mpKeep, notAnc, Blk.spc, opl_sc]; done)) (by simp only [dstOk, Nat.reduceLT]) (runs_eval tab_ok ?_))
    · (first | exact trivial | omega | (simp only [In64] at *; omega) | (simp [In64] at *; omega) | (simp_all; done) | skip)
    · (simp only [argsM, argM1, peekG, peekS, scA, sc1, ren, ren1, List.map_cons, List.map_nil, List.append_nil, List.cons_append, List.nil_append, enA, ev0, evA, evB, evP, fl, gp, tab, simprocAttr, reduceCtorEq, reduceIte]; try trivial)
      exact ⟨by rw [hlN], all_up (by decide) hl⟩
    simp only [putM, kills, hset, List.take_succ_cons, List.take_zero, List.drop_succ_cons, List.drop_zero, List.range', Blk.ren, ren, ren1, List.map_cons, List.map_nil, List.cons_append, List.nil_append, List.append_nil, List.length_cons, List.length_nil, ev0, evA, evB, evP, fl, gp, tab, simprocAttr, reduceCtorEq, reduceIte, binA.eq_def, Option.map_some]
    refine fin_run ?_ (hK _ ?_) <;> clear hK <;> clear K
    · (first | exact trivial | omega | (simp only [In64] at *; omega) | (simp [In64] at *; omega) | (simp_all; done) | skip)
    refine qa (qk (qb ?_))
    simp only [Tryd.results129, PostG, endG, rvsA, rvA, mkTup, ev0, evA, evB, evP, fl, gp, tab, simprocAttr, reduceCtorEq, reduceIte]
    all_goals (exact ⟨[0, 1, 2, 3, 4, 5, 6, 7, 17, 9, 10, 11, 12, 13, 14, 15, 16], rfl, rfl, by simp only [leq, leA, ev0, evA, evB, evP, fl, gp, tab, simprocAttr, reduceCtorEq, reduceIte] <;> first | trivial | exact ⟨by rw [hlS.2 _ rfl], all_up (by decide) hlS.1⟩ | trace_state⟩)
  · (try simp only [nhs] at hC1)
    omega
set_option maxHeartbeats 8000000 in
set_option maxRecDepth 20000 in
theorem next_leaf2 (p : Prot σ) (h : GT n m n e) (h' : GT N M N d) (L : List Nat) (hL : L = gl n (op m n) e n) {rec : Loop} (hrp : rec.params.size = 1) {l lN : List AV} (hY : Rounds Tryd.prog p rec l) (hokx : ∀ φ, Hmo n (op m n) N (op M N) φ → p.okx (.list (il (tbm n φ))))
    (hl : l.all (sc1 4) = true) (hlN : l.map (ren1 [3, 4, 5, 6, 8]) = lN) (t : List Nat) (i : σ) (htl : t.length = L.length) (hty : ∀ y ∈ t, y < N) (hi : p.ok i) (hex : ¬ ∃ φ, Ext n (op m n) N (op M N) L t φ) : NextC p n m e N M d L rec lN [] t i := by
  have hn := h.2.1.big
  have hpos : 0 < n := h.2.1.pos
  have hll := gl_len n (op m n) e n
  rw [← hL] at hll
  have hLlt := gl_lt n (op m n) e n
  have hLg := gl_gen n (op m n) e h.2.2
  rw [← hL] at hLlt hLg
  have hF : ∀ i, i < L.length → L.getD i 0 < n := fun i hi => hLlt _ (by simp [List.getD, List.getElem?_eq_getElem hi])
  have hT : ∀ i, i < L.length → t.getD i 0 < N := fun i hi => hty _ (by simp [List.getD, List.getElem?_eq_getElem (show i < t.length by omega)])
  have hnt := nl_len t
  have hnL := nl_len L
  have hone := p.ones i hi
  have hnn : (nl L).length = (nl t).length := by omega
  have hlS := fixL hl hlN
  unfold NextC
  have hs : hsq n (op m n) e N (op M N) d L [] t = [] := by unfold hsq hlf; rw [dif_neg hex]
  have hsp := fnc_of_p (spread_no h h' L t htl.symm (by omega) hF hT hLg fun φ hφ => hex ⟨φ, hφ⟩) rfl
  have hpl : pls (hsq n (op m n) e N (op M N) d L [] t) = [] := by rw [hs]; rfl
  rw [hpl]
  simp only [foldS]
  refine fnq_of (q := 8) tab_ok Tryd.func129 rfl (by kernel_rfl) (by rw [Tryd.ntmps129]; exact Nat.le_add_left 7 _) ?_; rw [Tryd.ntmps129]; simp only [ancs, entA, List.length_cons, List.length_nil, List.cons_append, List.nil_append, Nat.reduceAdd, Nat.zero_add]
  simp only [HN, rwd_full htl, List.append_nil, List.cons_append, List.nil_append]
  rw [show L.length = (nl t).length by omega]
  refine qm ?_
  refine hk_region fun K hK => runs_eval tab_ok ?_
  simp only [ev0, evA, evB, evP, fl, gp, tab, simprocAttr, reduceCtorEq, reduceIte]
  refine fin_run trivial (hK _ ?_) <;> clear hK <;> clear K
  refine qa (qm (qm ?_))
  refine hk_region fun K hK => runs_eval tab_ok ?_
  simp only [ev0, evA, evB, evP, fl, gp, tab, simprocAttr, reduceCtorEq, reduceIte, il_length, hnn]
  refine fin_run ?_ (hK _ ?_) <;> clear hK <;> clear K
  · (first | exact trivial | omega | (simp only [In64] at *; omega) | (simp [In64] at *; omega) | (simp_all; done) | skip)
  refine qa ?_
  refine hk_cond rfl (fun hC1 => ?_) (fun hC1 => ?_)
  · (try simp only [nhs] at hC1)
    refine qm ?_
    refine hk_region fun K hK => runs_eval tab_ok ?_
    simp only [ev0, evA, evB, evP, fl, gp, tab, simprocAttr, reduceCtorEq, reduceIte]
    refine fin_stop ?_ (runs_call (b := false) (hsp) rfl (by simp only [callA, peekList, peekG, peekS, List.map_cons, List.map_nil, List.append_nil, enA, ev0, evA, evB, evP, fl, gp, tab, simprocAttr, reduceCtorEq, reduceIte, List.drop_zero, ol_drop, ol_take, take_len, ol_allP, il_all, il_length, List.length_replicate, List.take_replicate, Nat.min_self]; rfl) rfl (by simp only [dstOk, Nat.reduceLT]) ?_ (runs_eval tab_ok ?_))
    · (first | exact trivial | omega | (simp only [In64] at *; omega) | (simp [In64] at *; omega) | (simp_all; done) | skip)
    · (first | exact trivial | omega | (simp only [In64] at *; omega) | (simp [In64] at *; omega) | (simp_all; done) | skip)
    simp only [ev0, evA, evB, evP, fl, gp, tab, simprocAttr, reduceCtorEq, reduceIte]
    refine fin_run ?_ (hK _ ?_) <;> clear hK <;> clear K
    · (first | exact trivial | omega | (simp only [In64] at *; omega) | (simp [In64] at *; omega) | (simp_all; done) | skip)
    refine qa (qm ?_)
    refine hk_region fun K hK => runs_eval tab_ok ?_
    simp only [ev0, evA, evB, evP, fl, gp, tab, simprocAttr, reduceCtorEq, reduceIte, binA.eq_def, Option.map_some]
    refine fin_run trivial (hK _ ?_) <;> clear hK <;> clear K
    refine qa (qk (qb ?_))
    simp only [Tryd.results129, PostG, endG, rvsA, rvA, mkTup, ev0, evA, evB, evP, fl, gp, tab, simprocAttr, reduceCtorEq, reduceIte]
    all_goals (exact ⟨[0, 1, 2, 3, 4, 5, 6, 7, 8, 9, 10, 11, 12, 13, 14, 15, 16], rfl, rfl, by simp only [leq, leA, ev0, evA, evB, evP, fl, gp, tab, simprocAttr, reduceCtorEq, reduceIte] <;> first | trivial | exact ⟨⟨by rw [hlS.2 _ rfl], all_up (by decide) hlS.1⟩, rfl⟩ | trace_state⟩)
  · (try simp only [nhs] at hC1)
    omega
theorem hsq_mem {f g : Nat → Nat → Nat} {L : List Nat} : ∀ (r t : List Nat) (w : List Int), w ∈ hsq n f e N g d L r t → ∃ φ, Hmo n f N g φ ∧ w = tbm n φ
  | [], t, w, h => by
    unfold hsq hlf at h
    split at h
    · rename_i hex
      exact ⟨_, (Classical.choose_spec hex).1, by simpa using h⟩
    · simp at h
  | x :: r, t, w, h => by
    unfold hsq at h
    obtain ⟨y, _, h⟩ := List.mem_flatMap.1 h
    exact hsq_mem r _ w h
theorem hsu_mem {f g : Nat → Nat → Nat} {L r t : List Nat} {x y : Nat} (w : List Int) (h : w ∈ hsu n f e N g d L r t x y) : ∃ φ, Hmo n f N g φ ∧ w = tbm n φ := by
  unfold hsu at h
  obtain ⟨y, _, h⟩ := List.mem_flatMap.1 h
  exact hsq_mem r _ w h
theorem hsu_end {f g : Nat → Nat → Nat} {L r t : List Nat} {x : Nat} : hsq n f e N g d L (x :: r) t = hsu n f e N g d L r t x N := by
  rw [hsq]; rfl
theorem hsu_pre {f g : Nat → Nat → Nat} {L r t : List Nat} {x y : Nat} (h : y ≤ N) : ∃ z, hsq n f e N g d L (x :: r) t = hsu n f e N g d L r t x y ++ z := by
  rw [hsu_end]
  have : ∀ k, ∃ z, hsu n f e N g d L r t x (y + k) = hsu n f e N g d L r t x y ++ z := by
    intro k
    induction k with
    | zero => exact ⟨[], by simp⟩
    | succ k ih =>
      obtain ⟨z, hz⟩ := ih
      rw [← Nat.add_assoc, hsu_succ, hz]
      split
      · exact ⟨_, List.append_assoc _ _ _⟩
      · exact ⟨z, rfl⟩
  obtain ⟨k, hk⟩ : ∃ k, N = y + k := ⟨N - y, by omega⟩
  have := this k
  rwa [← hk] at this
theorem foldS_pre (p : Prot σ) {i : σ} {a b : List PV} (h : (foldS p i a).2 = false) : foldS p i (a ++ b) = foldS p i a := by
  rw [foldS_app, h]; rfl
theorem foldS_on (p : Prot σ) {i : σ} {a b : List PV} (h : (foldS p i a).2 = true) : foldS p i (a ++ b) = foldS p (foldS p i a).1 b := by
  rw [foldS_app, h]; rfl

set_option maxHeartbeats 8000000 in
set_option maxRecDepth 20000 in
theorem next_step (p : Prot σ) (h : GT n m n e) (h' : GT N M N d) (L : List Nat) (hL : L = gl n (op m n) e n) {rec : Loop} {lN : List AV} (hlS : lN.all (sc1 7) = true ∧ ∀ π : List Nat, π.take 7 = [0, 1, 2, 3, 4, 5, 6] → lN.map (ren1 π) = lN) (hokx : ∀ φ, Hmo n (op m n) N (op M N) φ → p.okx (.list (il (tbm n φ))))
    (x : Nat) (r t : List Nat) (i : σ) (hx : L.getD t.length 0 = x) (htl : t.length < L.length) (hi : p.ok i)
    (IH : ∀ y, y < N → ∀ i, p.ok i → NextC p n m e N M d L rec lN r (t ++ [y]) i) : NextC p n m e N M d L rec lN (x :: r) t i := by
  have hn := h.2.1.big
  have hN := h'.2.1.big
  have hpos : 0 < n := h.2.1.pos
  have hll := gl_len n (op m n) e n
  rw [← hL] at hll
  have hLlt := gl_lt n (op m n) e n
  rw [← hL] at hLlt
  have hxn : x < n := by rw [← hx]; exact hLlt _ (by simp [List.getD, List.getElem?_eq_getElem htl])
  have hnt := nl_len t
  have hnL := nl_len L
  have hone := p.ones i hi
  have hox : ∀ y, ∀ v ∈ pls (hsu n (op m n) e N (op M N) d L r t x y), p.okx v := fun y v hv => by
    obtain ⟨w, hw, rfl⟩ := List.mem_map.1 hv
    obtain ⟨φ, hφ, rfl⟩ := hsu_mem w hw
    exact hokx φ hφ
  have hrl := rwd_len (Nat.le_of_lt htl)
  have h00 : foldS p i (pls (hsu n (op m n) e N (op M N) d L r t x 0)) = (i, true) := rfl
  have hL17 := hlS.2 [0, 1, 2, 3, 4, 5, 6, 7, 8, 9, 10, 11, 12, 13, 14, 15, 16] rfl
  have hlS17 : lN.all (sc1 17) = true := all_up (by decide) hlS.1
  have hL9 := hlS.2 [0, 1, 2, 3, 4, 5, 6, 7, 8] rfl
  have hL9' := hlS.2 [0, 1, 2, 3, 4, 5, 6, 7, 17] rfl
  have hL17' := hlS.2 [0, 1, 2, 3, 4, 5, 6, 7, 17, 9, 10, 11, 12, 13, 14, 15, 16] rfl
  have hlS9 : lN.all (sc1 9) = true := all_up (by decide) hlS.1
  unfold NextC
  refine fnq_of (q := 8) tab_ok Tryd.func129 rfl (by kernel_rfl) (by rw [Tryd.ntmps129]; exact Nat.le_add_left 7 _) ?_; rw [Tryd.ntmps129]; simp only [ancs, entA, List.length_cons, List.length_nil, List.cons_append, List.nil_append, Nat.reduceAdd, Nat.zero_add]
  simp only [HN, List.append_nil, List.cons_append, List.nil_append]
  refine qm ?_
  refine hk_region fun K hK => runs_eval tab_ok ?_
  simp only [ev0, evA, evB, evP, fl, gp, tab, simprocAttr, reduceCtorEq, reduceIte]
  refine fin_run trivial (hK _ ?_) <;> clear hK <;> clear K
  refine qa (qm (qm ?_))
  refine hk_region fun K hK => runs_eval tab_ok ?_
  simp only [ev0, evA, evB, evP, fl, gp, tab, simprocAttr, reduceCtorEq, reduceIte, il_length, hnL]
  refine fin_run ?_ (hK _ ?_) <;> clear hK <;> clear K
  · (first | exact trivial | omega | (simp only [In64] at *; omega) | (simp [In64] at *; omega) | (simp_all; done) | skip)
  refine qa ?_
  refine hk_cond rfl (fun hC1 => ?_) (fun hC1 => ?_)
  · (try simp only [nhs] at hC1)
    omega
  · (try simp only [nhs] at hC1)
    refine qh (qa (qm ?_))
    refine hk_draw mixed (by kernel_rfl) fun K hK => runs_eval tab_ok ?_
    simp only [ev0, evA, evB, evP, fl, gp, tab, simprocAttr, reduceCtorEq, reduceIte, il_get (show t.length < (nl L).length by omega), nl_get htl, hx]
    refine fin_stop ?_ (runs_call (orderOf_c h hxn) rfl rfl rfl (by simp only [dstOk, Nat.reduceLT]) (by repeat (first | exact trivial | constructor)) (runs_eval tab_ok ?_))
    · exact ⟨by omega, by omega⟩
    simp only [ev0, evA, evB, evP, fl, gp, tab, simprocAttr, reduceCtorEq, reduceIte, il_get (show t.length < (nl L).length by omega), nl_get htl, hx]
    refine fin_run ?_ (hK _ ?_) <;> clear hK <;> clear K
    · (first | exact trivial | omega | (simp only [In64] at *; omega) | (simp [In64] at *; omega) | (simp_all; done) | skip)
    refine qa (qm (qm ?_))
    refine hk_region fun K hK => runs_eval tab_ok ?_
    simp only [ev0, evA, evB, evP, fl, gp, tab, simprocAttr, reduceCtorEq, reduceIte]
    refine fin_run ?_ (hK _ ?_) <;> clear hK <;> clear K
    · (first | exact trivial | omega | (simp only [In64] at *; omega) | (simp [In64] at *; omega) | (simp_all; done) | skip)
    refine qa (ql ?_)
    refine hk_loop (ι := Nat) (fun y => ⟨55, [(0, .p (.int .i64 t.length)), (3, .p (.ptr [.int .i64 N, .list (il M)])), (4, .ptr 0 0), (6, .ptr 2 0), (10, .p (.int .i64 (ord n (op m n) e x : Nat))), (35, .p (.int .i64 N)), (36, .p (.int .i64 y))], [.own [.sl 7 0 L.length], .own [.yv 6 lN rec.tmps], .own [.cl 129 [.p (.ptr [.list (il (nl L))]), .p (.ptr [.int .i64 n, .list (il m)]), .p (.ptr [.int .i64 N, .list (il M)]), .ptr 0 0, .ptr 1 0, .ptr 2 0]], .own [.p (p.c4 (foldS p i (pls (hsu n (op m n) e N (op M N) d L r t x y))).1)], .own [.p (p.c51 (foldS p i (pls (hsu n (op m n) e N (op M N) d L r t x y))).1), .p (p.c52 (foldS p i (pls (hsu n (op m n) e N (op M N) d L r t x y))).1)], .own [.sl 8 0 (p.R (foldS p i (pls (hsu n (op m n) e N (op M N) d L r t x y))).1).length], .lp rec, .own (rwd t L.length), .own (opl (p.R (foldS p i (pls (hsu n (op m n) e N (op M N) d L r t x y))).1)), .anc 0 0, .anc 1 1, .anc 2 2, .anc 3 3, .anc 4 4, .anc 5 5, .anc 6 6, .anc 7 7]⟩) (fun y => y ≤ N ∧ (foldS p i (pls (hsu n (op m n) e N (op M N) d L r t x y))).2 = true) (fun y => N - y) 0 ⟨Nat.zero_le _, rfl⟩ [0, 1, 2, 3, 4, 5, 6, 7, 8, 9, 10, 11, 12, 13, 14, 15, 16] (by simp only [leq, leA, ev0, evA, evB, evP, fl, gp, tab, simprocAttr, reduceCtorEq, reduceIte, h00, hL17, rwd_ren, rwd_sc, hlS17] <;> first | trivial | trace_state) fun y hy => ?_
    obtain ⟨hy1, hy2⟩ := hy
    have hok := foldS_ok p i _ hi (hox y) hy2
    have hsc := @hsu_succ n e N d (op m n) (op M N) L r t x y
    obtain ⟨j, hj⟩ : ∃ j, (foldS p i (pls (hsu n (op m n) e N (op M N) d L r t x y))).1 = j := ⟨_, rfl⟩
    rw [hj] at hok ⊢
    refine qm ?_
    refine hk_region fun K hK => runs_eval tab_ok ?_
    simp only [ev0, evA, evB, evP, fl, gp, tab, simprocAttr, reduceCtorEq, reduceIte]
    refine fin_run trivial (hK _ ?_) <;> clear hK <;> clear K
    refine qa (qm ?_)
    refine hk_cond rfl (fun hC2 => ?_) (fun hC2 => ?_)
    · (try simp only [nhs] at hC2)
      have hyN : y < N := by omega
      have hoy := h'.2.2.ord_pos hyN
      refine qh (qa (qm (ql (qm ?_))))
      refine hk_region fun K hK => runs_eval tab_ok ?_
      simp only [ev0, evA, evB, evP, fl, gp, tab, simprocAttr, reduceCtorEq, reduceIte]
      refine fin_run trivial (hK _ ?_) <;> clear hK <;> clear K
      refine qa (qm ?_)
      refine hk_region fun K hK => runs_eval tab_ok ?_
      simp only [ev0, evA, evB, evP, fl, gp, tab, simprocAttr, reduceCtorEq, reduceIte]
      refine fin_stop trivial (runs_call (orderOf_c h' hyN) rfl rfl rfl (by simp only [dstOk, Nat.reduceLT]) (by repeat (first | exact trivial | constructor)) (runs_eval tab_ok ?_))
      simp only [ev0, evA, evB, evP, fl, gp, tab, simprocAttr, reduceCtorEq, reduceIte]
      refine fin_run ?_ (hK _ ?_) <;> clear hK <;> clear K
      · (first | exact trivial | omega | (simp only [In64] at *; omega) | (simp [In64] at *; omega) | (simp_all; done) | skip)
      refine qa ?_
      refine hk_cond rfl (fun hC3 => ?_) (fun hC3 => ?_)
      · (try simp only [nhs] at hC3)
        have hIH := IH y hyN j hok
        have hto := foldS_on p (b := pls (hsq n (op m n) e N (op M N) d L r (t ++ [y]))) hy2
        rw [hj] at hto
        unfold NextC at hIH
        obtain ⟨B, hB⟩ : ∃ B, (foldS p j (pls (hsq n (op m n) e N (op M N) d L r (t ++ [y])))).2 = B := ⟨_, rfl⟩
        obtain ⟨j2, hj2⟩ : ∃ j2, (foldS p j (pls (hsq n (op m n) e N (op M N) d L r (t ++ [y])))).1 = j2 := ⟨_, rfl⟩
        rw [hB, hj2] at hIH
        have hcn : ((t ++ [y]).length : Int) = (t.length : Int) + 1 := by simp
        rw [hcn] at hIH
        simp only [HN] at hIH
        refine qm ?_
        refine hk_region fun K hK => runs_eval tab_ok ?_
        simp only [ev0, evA, evB, evP, fl, gp, tab, simprocAttr, reduceCtorEq, reduceIte, rwd_set htl, hrl]
        refine fin_run ?_ (hK _ ?_) <;> clear hK <;> clear K
        · (first | exact trivial | omega | (simp only [In64] at *; omega) | (simp [In64] at *; omega) | (simp_all; done) | skip)
        refine qa (qm ?_)
        refine hk_region fun K hK => runs_eval tab_ok ?_
        simp only [ev0, evA, evB, evP, fl, gp, tab, simprocAttr, reduceCtorEq, reduceIte]
        refine fin_stop ?_ (runs_callQ [0, 1, 2, 3, 4, 5, 6, 7, 8] (hIH) rfl rfl ?_ (by simp only [leA, ev0, evA, evB, evP, fl, gp, tab, simprocAttr, reduceCtorEq, reduceIte, hL9, hL9', rwd_ren, rwd_sc, hlS9]; first | trivial | (simp only [ll_takeL]; first | trivial | (repeat constructor; done)) | (repeat constructor)) (by decide) (by first | rfl | (simp only [List.length_cons, List.length_nil, List.length_append]; decide)) (by first | rfl | (simp [scQ, scA, sc1, mpKeep, notAnc, Blk.spc, opl_sc, hL9, hL9', rwd_ren, rwd_sc, hlS9]; done)) (by simp only [dstOk, Nat.reduceLT]) (runs_eval tab_ok ?_))
        · (first | exact trivial | omega | (simp only [In64] at *; omega) | (simp [In64] at *; omega) | (simp_all; done) | skip)
        · (simp only [argsM, argM1, peekG, peekS, scA, sc1, ren, ren1, List.map_cons, List.map_nil, List.append_nil, List.cons_append, List.nil_append, enA, ev0, evA, evB, evP, fl, gp, tab, simprocAttr, reduceCtorEq, reduceIte]; try trivial)
        simp only [putM, kills, hset, List.take_succ_cons, List.take_zero, List.drop_succ_cons, List.drop_zero, List.range', Blk.ren, ren, ren1, List.map_cons, List.map_nil, List.cons_append, List.nil_append, List.append_nil, List.length_cons, List.length_nil, ev0, evA, evB, evP, fl, gp, tab, simprocAttr, reduceCtorEq, reduceIte, recB_true, hL9, hL9', rwd_ren, rwd_sc, hlS9]
        refine fin_run ?_ (hK _ ?_) <;> clear hK <;> clear K
        · (first | exact trivial | omega | (simp only [In64] at *; omega) | (simp [In64] at *; omega) | (simp_all; done) | skip)
        refine qa ?_
        refine hk_back 7 rfl htl ?_
        refine hk_cond rfl (fun hC4 => ?_) (fun hC4 => ?_)
        · (try simp only [nhs] at hC4)
          subst hC4
          have hm : ord n (op m n) e x % ord N (op M N) d y = 0 := by omega
          rw [if_pos hm] at hsc
          obtain ⟨z, hz⟩ := @hsu_pre n e N d (op m n) (op M N) L r t x (y + 1) (by omega)
          have hfin : foldS p i (pls (hsq n (op m n) e N (op M N) d L (x :: r) t)) = (j2, false) := by
            have e1 : foldS p i (pls (hsu n (op m n) e N (op M N) d L r t x (y + 1))) = (j2, false) := by
              rw [hsc, pls_app, hto, ← hj2, ← hB]
            rw [hz, pls_app, foldS_pre p (by rw [e1]), e1]
          rw [hfin]
          refine qm ?_
          refine hk_region fun K hK => runs_eval tab_ok ?_
          simp only [ev0, evA, evB, evP, fl, gp, tab, simprocAttr, reduceCtorEq, reduceIte]
          refine fin_run trivial (hK _ ?_) <;> clear hK <;> clear K
          refine qa (qk (qe (qb (qb (qe (qb ?_))))))
          simp only [Tryd.results129, PostG, endG, rvsA, rvA, mkTup, ev0, evA, evB, evP, fl, gp, tab, simprocAttr, reduceCtorEq, reduceIte]
          all_goals (exact ⟨[0, 1, 2, 3, 4, 5, 6, 7, 17, 9, 10, 11, 12, 13, 14, 15, 16], rfl, rfl, by simp only [leq, leA, ev0, evA, evB, evP, fl, gp, tab, simprocAttr, reduceCtorEq, reduceIte, hL17, hL17', rwd_ren, rwd_sc, hlS17] <;> first | trivial | trace_state⟩)
        · (try simp only [nhs] at hC4)
          obtain rfl : B = true := by simpa using hC4
          rw [recB_true]
          have hm : ord n (op m n) e x % ord N (op M N) d y = 0 := by omega
          rw [if_pos hm] at hsc
          have e1 : foldS p i (pls (hsu n (op m n) e N (op M N) d L r t x (y + 1))) = (j2, true) := by
            rw [hsc, pls_app, hto, ← hj2, ← hB]
          refine qh (qd (qa ?_))
          refine hk_region fun K hK => runs_eval tab_ok ?_
          simp only [ev0, evA, evB, evP, fl, gp, tab, simprocAttr, reduceCtorEq, reduceIte]
          refine fin_run ?_ (hK _ ?_) <;> clear hK <;> clear K
          · (first | exact trivial | omega | (simp only [In64] at *; omega) | (simp [In64] at *; omega) | (simp_all; done) | skip)
          refine qa ?_
          refine ⟨y + 1, [0, 1, 2, 3, 4, 5, 6, 7, 17, 9, 10, 11, 12, 13, 14, 15, 16], ⟨by omega, by rw [e1]⟩, by omega, ?_⟩
          simp only [leq, leA, ev0, evA, evB, evP, fl, gp, tab, simprocAttr, reduceCtorEq, reduceIte, e1, hL17, hL17', rwd_ren, rwd_sc, hlS17] <;> first | trivial | omega | trace_state
      · (try simp only [nhs] at hC3)
        have hm : ¬ ord n (op m n) e x % ord N (op M N) d y = 0 := by omega
        rw [if_neg hm] at hsc
        have e1 : foldS p i (pls (hsu n (op m n) e N (op M N) d L r t x (y + 1))) = (j, true) := by
          rw [hsc, ← hj, ← hy2]
        refine qh (qd (qa ?_))
        refine hk_region fun K hK => runs_eval tab_ok ?_
        simp only [ev0, evA, evB, evP, fl, gp, tab, simprocAttr, reduceCtorEq, reduceIte]
        refine fin_run ?_ (hK _ ?_) <;> clear hK <;> clear K
        · (first | exact trivial | omega | (simp only [In64] at *; omega) | (simp [In64] at *; omega) | (simp_all; done) | skip)
        refine qa ?_
        refine ⟨y + 1, [0, 1, 2, 3, 4, 5, 6, 7, 8, 9, 10, 11, 12, 13, 14, 15, 16], ⟨by omega, by rw [e1]⟩, by omega, ?_⟩
        simp only [leq, leA, ev0, evA, evB, evP, fl, gp, tab, simprocAttr, reduceCtorEq, reduceIte, e1, hL17, hL17', rwd_ren, rwd_sc, hlS17] <;> first | trivial | omega | trace_state
    · (try simp only [nhs] at hC2)
      obtain rfl : y = N := by omega
      have hfin : foldS p i (pls (hsq n (op m n) e y (op M y) d L (x :: r) t)) = (j, true) := by
        rw [hsu_end, ← hj, ← hy2]
      rw [hfin]
      refine qj (qc (qc (qf (qa (qm ?_)))))
      refine hk_region fun K hK => runs_eval tab_ok ?_
      simp only [ev0, evA, evB, evP, fl, gp, tab, simprocAttr, reduceCtorEq, reduceIte]
      refine fin_run trivial (hK _ ?_) <;> clear hK <;> clear K
      refine qa (qk ?_)
      simp only [Tryd.results129, PostG, endG, rvsA, rvA, mkTup, ev0, evA, evB, evP, fl, gp, tab, simprocAttr, reduceCtorEq, reduceIte]
      all_goals (exact ⟨[0, 1, 2, 3, 4, 5, 6, 7, 8, 9, 10, 11, 12, 13, 14, 15, 16], rfl, rfl, by simp only [leq, leA, ev0, evA, evB, evP, fl, gp, tab, simprocAttr, reduceCtorEq, reduceIte, hL17, hL17', rwd_ren, rwd_sc, hlS17] <;> first | trivial | trace_state⟩)
end
end Go.Proofs.YtboadfahlflmhaaDoor

/-
  Walks: the search begun; loops over all homomorphisms. Conditions: none.
-/
set_option linter.all false
namespace Go.Pv
open Go.RowKit
theorem back1 {ks : List Nat} (h0 : ks.getD 3 0 = 0) (h1 : ks.getD 4 0 = 1) (h2 : ks.getD 5 0 = 2) (h3 : ks.getD 6 0 = 3) {x : AV} (h : sc1 4 x = true) : ren1 ks (ren1 [3, 4, 5, 6, 8] x) = x := by
  have hg : ∀ k, k < 4 → ks.getD ([3, 4, 5, 6, 8].getD k 0) 0 = k := fun k hk => by
    match k, hk with
    | 0, _ => exact h0
    | 1, _ => exact h1
    | 2, _ => exact h2
    | 3, _ => exact h3
  cases x <;> simp only [sc1, decide_eq_true_eq] at h <;> first | (cases h; done) | (simp only [ren1, hg _ h]; done) | rfl
theorem backL {ks : List Nat} (h0 : ks.getD 3 0 = 0) (h1 : ks.getD 4 0 = 1) (h2 : ks.getD 5 0 = 2) (h3 : ks.getD 6 0 = 3) {l : List AV} (h : l.all (sc1 4) = true) : (l.map (ren1 [3, 4, 5, 6, 8])).map (ren1 ks) = l := by
  rw [List.all_eq_true] at h
  rw [List.map_map]
  exact (List.map_congr_left fun x hx => back1 h0 h1 h2 h3 (h x hx)).trans (List.map_id _)
theorem hk_forget {P : Program} {Q : Exit → St → Prop} {s : St} {c : Code} (k : Nat) {b : List AV} (hk : hget s.H k = .own b) (h : Holds P c Q { s with H := hset s.H k (.own (List.replicate b.length .dead)) }) : Holds P c Q s :=
  hk_cells k hk (by simp) (fun C m tmps w R j h1 h2 v hv => by rw [List.getElem_replicate]; exact .dead _) h
end Go.Pv
namespace Go.Proofs.YtboadfahlflmhaaDoor
open Go.Pv
section
variable {n e N d : Nat} {m M : List Int} {σ : Type}
theorem next_c (p : Prot σ) (h : GT n m n e) (h' : GT N M N d) (L : List Nat) (hL : L = gl n (op m n) e n) {rec : Loop} (hrp : rec.params.size = 1) {l lN : List AV} (hY : Rounds Tryd.prog p rec l) (hokx : ∀ φ, Hmo n (op m n) N (op M N) φ → p.okx (.list (il (tbm n φ))))
    (hl : l.all (sc1 4) = true) (hlN : l.map (ren1 [3, 4, 5, 6, 8]) = lN) : ∀ (r t : List Nat) (i : σ), t.length ≤ L.length → L.drop t.length = r → (∀ y ∈ t, y < N) → p.ok i → NextC p n m e N M d L rec lN r t i
  | [], t, i, h1, h2, h3, hi => by
    have htl : t.length = L.length := by
      have := congrArg List.length h2
      simp at this; omega
    by_cases hex : ∃ φ, Ext n (op m n) N (op M N) L t φ
    · exact next_leaf1 p h h' L hL hrp hY hokx hl hlN t i htl h3 hi hex
    · exact next_leaf2 p h h' L hL hrp hY hokx hl hlN t i htl h3 hi hex
  | x :: r, t, i, h1, h2, h3, hi => by
    have htl : t.length < L.length := by
      have := congrArg List.length h2
      simp at this; omega
    have hd : L.drop t.length = L[t.length] :: L.drop (t.length + 1) := List.drop_eq_getElem_cons htl
    rw [h2] at hd
    obtain ⟨e1, e2⟩ := List.cons.inj hd
    refine next_step p h h' L hL (fixL hl hlN) hokx x r t i (by simp [List.getD, List.getElem?_eq_getElem htl, e1]) htl hi fun y hy j hj => ?_
    exact next_c p h h' L hL hrp hY hokx hl hlN r (t ++ [y]) j (by simp; omega) (by rw [List.length_append]; exact e2.symm) (fun z hz => by
      rcases List.mem_append.1 hz with hz | hz
      · exact h3 z hz
      · have : z = y := by simpa using hz
        omega) hj

set_option maxHeartbeats 8000000 in
set_option maxRecDepth 20000 in
theorem each_c (p : Prot σ) (h : GT n m n e) (h' : GT N M N d) (L : List Nat) (hL : L = gl n (op m n) e n) {rec : Loop} (hrp : rec.params.size = 1) {l : List AV} (hY : Rounds Tryd.prog p rec l) (hokx : ∀ φ, Hmo n (op m n) N (op M N) φ → p.okx (.list (il (tbm n φ))))
    (hl : l.all (sc1 4) = true) (i : σ) (hi : p.ok i) {j : σ} {b : Bool} (hf : foldS p i (pls (hsq n (op m n) e N (op M N) d L L [])) = (j, b)) :
    FnQ Tryd.prog 4 79 [.p (gp n m), .p (gp N M), .yv 3 l rec.tmps] (HU p i (.lp rec)) (.p (.tup [])) (HU p j (.lp (recB b rec))) := by
  have hlN : l.map (ren1 [3, 4, 5, 6, 8]) = l.map (ren1 [3, 4, 5, 6, 8]) := rfl
  have hNx := next_c p h h' L hL hrp hY hokx hl hlN L [] i (Nat.zero_le _) rfl (fun y hy => by simp at hy) hi
  unfold NextC at hNx
  rw [hf] at hNx
  have hc0 : ((([] : List Nat).length : Nat) : Int) = 0 := rfl
  rw [hc0] at hNx
  have hbk : ∀ ks : List Nat, ks.getD 3 0 = 0 → ks.getD 4 0 = 1 → ks.getD 5 0 = 2 → ks.getD 6 0 = 3 → (l.map (ren1 [3, 4, 5, 6, 8])).map (ren1 ks) = l := fun ks h0 h1 h2 h3 => backL h0 h1 h2 h3 hl
  have hlS := fixL hl hlN
  generalize l.map (ren1 [3, 4, 5, 6, 8]) = lN at hNx hbk hlS
  simp only [HN] at hNx
  have hL9 := hbk [14, 11, 15, 0, 1, 2, 3, 13, 4] rfl rfl rfl rfl
  have hlS9 : lN.all (sc1 9) = true := all_up (by decide) hlS.1
  have hll := gl_len n (op m n) e n
  have hn := h.2.1.big
  rw [← hL] at hll
  have hrw : List.replicate (List.replicate L.length (AV.p (.int .i64 0))).length AV.dead = rwd [] L.length := by simp [rwd, nl, il, opl]
  have hnL := nl_len L
  have hgn := gens_c h
  rw [← hL] at hgn
  have hone := p.ones i hi
  refine fnq_of (q := 4) tab_ok Tryd.func79 rfl (by kernel_rfl) (by rw [Tryd.ntmps79]; exact Nat.le_add_left 3 _) ?_; rw [Tryd.ntmps79]; simp only [ancs, entA, List.length_cons, List.length_nil, List.cons_append, List.nil_append, Nat.reduceAdd, Nat.zero_add]
  simp only [HU, List.append_nil, List.cons_append, List.nil_append]
  refine qm ?_
  refine hk_region fun K hK => runs_eval tab_ok ?_
  simp only [ev0, evA, evB, evP, fl, gp, tab, simprocAttr, reduceCtorEq, reduceIte]
  refine fin_run ?_ (hK _ ?_) <;> clear hK <;> clear K
  · (first | exact trivial | omega | (simp only [In64] at *; omega) | (simp [In64] at *; omega) | (simp_all; done) | skip)
  refine qa (qm ?_)
  refine hk_region fun K hK => runs_eval tab_ok ?_
  simp only [ev0, evA, evB, evP, fl, gp, tab, simprocAttr, reduceCtorEq, reduceIte]
  refine fin_stop trivial (runs_call (hgn) rfl rfl rfl (by simp only [dstOk, Nat.reduceLT]) (by repeat (first | exact trivial | constructor)) (runs_eval tab_ok ?_))
  simp only [ev0, evA, evB, evP, fl, gp, tab, simprocAttr, reduceCtorEq, reduceIte]
  refine fin_run ?_ (hK _ ?_) <;> clear hK <;> clear K
  · (first | exact trivial | omega | (simp only [In64] at *; omega) | (simp [In64] at *; omega) | (simp_all; done) | skip)
  refine qa (qm ?_)
  refine hk_region fun K hK => runs_eval tab_ok ?_
  simp only [ev0, evA, evB, evP, fl, gp, tab, simprocAttr, reduceCtorEq, reduceIte]
  refine fin_run ?_ (hK _ ?_) <;> clear hK <;> clear K
  · rw [hnL]; exact ⟨by omega, by omega, by omega, by omega⟩
  refine qa (qm ?_)
  refine hk_region fun K hK => runs_eval tab_ok ?_
  simp only [ev0, evA, evB, evP, fl, gp, tab, simprocAttr, reduceCtorEq, reduceIte]
  refine fin_run ?_ (hK _ ?_) <;> clear hK <;> clear K
  · (first | exact trivial | omega | (simp only [In64] at *; omega) | (simp [In64] at *; omega) | (simp_all; done) | skip)
  refine qa (qm ?_)
  refine hk_freeze 12 rfl rfl ?_
  refine hk_freeze 9 rfl rfl ?_
  refine hk_freeze 10 rfl rfl ?_
  refine hk_forget 13 rfl ?_
  simp only [hset, hrw, hnL]
  refine hk_pure 6 rfl (Nat.zero_le _) ?_
  refine hk_pure 3 rfl (Nat.zero_le _) ?_
  refine hk_pure 4 rfl (Nat.zero_le _) ?_
  refine hk_region fun K hK => runs_eval tab_ok ?_
  simp only [ev0, evA, evB, evP, fl, gp, tab, simprocAttr, reduceCtorEq, reduceIte]
  refine fin_stop ?_ (runs_op (makeCl_does rfl rfl) rfl (by simp only [dstOk, Nat.reduceLT]) (runs_eval tab_ok ?_))
  · (first | exact trivial | omega | (simp only [In64] at *; omega) | (simp [In64] at *; omega) | (simp_all; done) | skip)
  simp only [ev0, evA, evB, evP, fl, gp, tab, simprocAttr, reduceCtorEq, reduceIte]
  refine fin_run ?_ (hK _ ?_) <;> clear hK <;> clear K
  · (first | exact trivial | omega | (simp only [In64] at *; omega) | (simp [In64] at *; omega) | (simp_all; done) | skip)
  refine qa ?_
  refine hk_region fun K hK => runs_eval tab_ok ?_
  simp only [ev0, evA, evB, evP, fl, gp, tab, simprocAttr, reduceCtorEq, reduceIte]
  refine fin_stop ?_ (runs_callQ [14, 11, 15, 0, 1, 2, 3, 13, 4] (hNx) rfl rfl ?_ (by simp only [leA, ev0, evA, evB, evP, fl, gp, tab, simprocAttr, reduceCtorEq, reduceIte, hL9, rwd_ren, rwd_sc, hlS9]; first | trivial | (simp only [ll_takeL]; first | trivial | (repeat constructor; done)) | (repeat constructor)) (by decide) (by first | rfl | (simp only [List.length_cons, List.length_nil, List.length_append]; decide)) (by first | rfl | (simp [scQ, scA, sc1, mpKeep, notAnc, Blk.spc, opl_sc, hL9, rwd_ren, rwd_sc, hlS9]; done)) (by simp only [dstOk, Nat.reduceLT]) (runs_eval tab_ok ?_))
  · (first | exact trivial | omega | (simp only [In64] at *; omega) | (simp [In64] at *; omega) | (simp_all; done) | skip)
  · (simp only [argsM, argM1, peekG, peekS, scA, sc1, ren, ren1, List.map_cons, List.map_nil, List.append_nil, List.cons_append, List.nil_append, enA, ev0, evA, evB, evP, fl, gp, tab, simprocAttr, reduceCtorEq, reduceIte]; try trivial)
  simp only [putM, kills, hset, List.take_succ_cons, List.take_zero, List.drop_succ_cons, List.drop_zero, List.range', Blk.ren, ren, ren1, List.map_cons, List.map_nil, List.cons_append, List.nil_append, List.append_nil, List.length_cons, List.length_nil, ev0, evA, evB, evP, fl, gp, tab, simprocAttr, reduceCtorEq, reduceIte, hL9, rwd_ren, rwd_sc, hlS9]
  refine fin_run ?_ (hK _ ?_) <;> clear hK <;> clear K
  · (first | exact trivial | omega | (simp only [In64] at *; omega) | (simp [In64] at *; omega) | (simp_all; done) | skip)
  simp only [Tryd.results79, PostG, endG, rvsA, rvA, mkTup, ev0, evA, evB, evP, fl, gp, tab, simprocAttr, reduceCtorEq, reduceIte]
  all_goals (exact ⟨[0, 1, 2, 3, 16, 5, 6, 7, 8], rfl, rfl, by simp only [leq, leA, ev0, evA, evB, evP, fl, gp, tab, simprocAttr, reduceCtorEq, reduceIte] <;> first | trivial | trace_state⟩)
end
end Go.Proofs.YtboadfahlflmhaaDoor

/-
  Walks: all homomorphisms of two groups. Conditions: none.
-/
set_option linter.all false
namespace Go.Pv
open Go.RowKit
/-- A list of up to a thousand, and one more where there are too many. -/
def prA (f : PV → Bool) (ox : List Int → Prop) : Prot (List PV) where
  c4 _ := .nil
  c51 l := .int .i64 (if l.length ≤ 1000 then 0 else 9)
  c52 _ := .int .i64 0
  R l := l
  go l x := !f x || decide (l.length + 1 ≤ 1000)
  nx l x := if f x then l ++ [x] else l
  ok l := l.length ≤ 1000 ∧ l.all PV.one = true
  okx x := ∃ v, x = .list (il v) ∧ ox v
  ok_nx l x h hx hg := by
    by_cases hf : f x = true
    · rw [if_pos hf]
      simp [hf] at hg
      refine ⟨by simp; omega, ?_⟩
      rw [List.all_append, h.2]
      obtain ⟨v, rfl, _⟩ := hx
      rfl
    · rw [if_neg hf]; exact h
  ones l h := h.2
theorem foldA (f : PV → Bool) (ox : List Int → Prop) : ∀ (xs l : List PV), l.length ≤ 1000 → (l ++ xs.filter f).length ≤ 1000 → foldS (prA f ox) l xs = (l ++ xs.filter f, true)
  | [], l, h, _ => by simp [foldS]
  | x :: xs, l, h, hl => by
    unfold foldS
    by_cases hf : f x = true
    · rw [List.filter_cons_of_pos hf] at hl ⊢
      have h1 : l.length + 1 ≤ 1000 := by simp at hl; omega
      have h2 : (prA f ox).go l x = true := by simp [prA, hf]; omega
      have h3 : (prA f ox).nx l x = l ++ [x] := by simp [prA, hf]
      rw [if_pos h2, h3, foldA f ox xs _ (by simp; omega) (by simpa using hl)]
      simp
    · rw [List.filter_cons_of_neg hf] at hl ⊢
      have h2 : (prA f ox).go l x = true := by simp [prA, hf]
      have h3 : (prA f ox).nx l x = l := by simp [prA, hf]
      rw [if_pos h2, h3, foldA f ox xs _ h hl]
theorem foldA_no (f : PV → Bool) (ox : List Int → Prop) : ∀ (xs l : List PV), l.length ≤ 1000 → ¬ (l ++ xs.filter f).length ≤ 1000 → ∃ j, foldS (prA f ox) l xs = (j, false) ∧ ¬ j.length ≤ 1000
  | [], l, h, h2 => absurd h (by simpa using h2)
  | x :: xs, l, h, hl => by
    unfold foldS
    by_cases hf : f x = true
    · rw [List.filter_cons_of_pos hf] at hl
      have h3 : (prA f ox).nx l x = l ++ [x] := by simp [prA, hf]
      by_cases h1 : l.length + 1 ≤ 1000
      · have h2 : (prA f ox).go l x = true := by simp [prA, hf]; omega
        rw [if_pos h2, h3]
        exact foldA_no f ox xs _ (by simp; omega) (by simpa using hl)
      · have h2 : ¬ (prA f ox).go l x = true := by simp [prA, hf]; omega
        rw [if_neg h2, h3]
        exact ⟨_, rfl, by simp; omega⟩
    · rw [List.filter_cons_of_neg hf] at hl
      have h2 : (prA f ox).go l x = true := by simp [prA, hf]
      have h3 : (prA f ox).nx l x = l := by simp [prA, hf]
      rw [if_pos h2, h3]
      exact foldA_no f ox xs _ h hl
section
variable {P : Program} {Q : Exit → St → Prop} {s : St} {C : Ctx} {m : Map} {tmps : Array Value} {w : World}
/-- A function that has pure things with it, as one with blocks. -/
theorem Rel.toCl (R : Rel C m s tmps w) {t : Nat} {f : FuncId} {ps : List PV} (h : s.get t = .p (.fn f ps)) : Rel C m { s with sl := (t, .cl f (ps.map AV.p)) :: s.sl } tmps w := by
  refine ⟨R.laid, R.below, R.base, R.size, R.inj, R.blk, R.fro, fun t' => ?_, R.mp⟩
  by_cases e : t = t'
  · subst e
    have e2 : ({ s with sl := (t, .cl f (ps.map AV.p)) :: s.sl } : St).get t = .cl f (ps.map AV.p) := by simp [St.get, lk]
    rw [e2]
    have hv := R.slot t
    rw [h] at hv
    have hv := hv.p_inv
    generalize tmps.getD t undef = v at hv
    cases hv with
    | fn _ _ vs hl hr =>
      refine .cl _ _ vs (by simpa using hl) fun c hc => ?_
      rw [List.getElem_map]
      exact .p _ _ (hr c (by simpa using hc))
  · have e2 : ({ s with sl := (t, .cl f (ps.map AV.p)) :: s.sl } : St).get t' = s.get t' := by simp [St.get, lk, show (t == t') = false by simpa using e]
    rw [e2]
    exact R.slot t'
theorem hr_cl {c : Code} (t : Nat) {f : FuncId} {ps : List PV} (h : s.get t = .p (.fn f ps)) (h' : HoldsR P c Q { s with sl := (t, .cl f (ps.map AV.p)) :: s.sl }) : HoldsR P c Q s :=
  fun C0 C m a w hS R hd => h' C0 C m a w hS (R.toCl h) hd
end
end Go.Pv
namespace Go.Proofs.YtboadfahlflmhaaDoor
open Go.Pv
section
variable {n e N d : Nat} {m M : List Int} {σ : Type}
theorem tg_ok (h : GT n m n e) (h' : GT N M N d) : tg n m N M = (0, 0) := by
  unfold tg
  rw [gf_of h, gf_of h']; rfl
theorem all1_c (p : Prot σ) (h : GT n m n e) (h' : GT N M N d) (L : List Nat) (hL : L = gl n (op m n) e n) {rec : Loop} (hrp : rec.params.size = 1) {l : List AV} (hY : Rounds Tryd.prog p rec l) (hokx : ∀ φ, Hmo n (op m n) N (op M N) φ → p.okx (.list (il (tbm n φ))))
    (hl : l.all (sc1 4) = true) (i : σ) (hi : p.ok i) {j : σ} {b : Bool} (hf : foldS p i (pls (hsq n (op m n) e N (op M N) d L L [])) = (j, b)) :
    FnQ Tryd.prog 4 99 [.yv 3 l rec.tmps, .p (.ptr [.int .i64 n, .list (il m)]), .p (.ptr [.int .i64 N, .list (il M)])] (HU p i (.lp rec)) (.p (.tup [])) (HU p j (.lp (recB b rec))) := by
  have hE := each_c p h h' L hL hrp hY hokx hl i hi hf
  have hl4 : l.map (ren1 [0, 1, 2, 3, 4]) = l := (List.map_congr_left fun x hx => ren1_range (n := 5) (List.all_eq_true.1 (all_up (by decide) hl) x hx)).trans (List.map_id _)
  unfold HU at hE ⊢
  refine fnq_of (q := 4) tab_ok Tryd.func99 rfl (by kernel_rfl) (by rw [Tryd.ntmps99]; exact Nat.le_add_left 3 _) ?_; rw [Tryd.ntmps99]; simp only [ancs, entA, List.length_cons, List.length_nil, List.cons_append, List.nil_append, Nat.reduceAdd, Nat.zero_add]
  refine hk_region fun K hK => runs_eval tab_ok ?_
  simp only [ev0, evA, evB, evP, fl, gp, tab, simprocAttr, reduceCtorEq, reduceIte]
  refine fin_stop ?_ (runs_callQ [0, 1, 2, 3, 4] (hE) rfl rfl ?_ (by simp only [leA, ev0, evA, evB, evP, fl, gp, tab, simprocAttr, reduceCtorEq, reduceIte]; first | trivial | (simp only [ll_takeL]; first | trivial | (repeat constructor; done)) | (repeat constructor)) (by decide) (by first | rfl | (simp only [List.length_cons, List.length_nil, List.length_append]; decide)) (by first | rfl | (simp [scQ, scA, sc1, mpKeep, notAnc, Blk.spc, opl_sc]; done)) (by simp only [dstOk, Nat.reduceLT]) (runs_eval tab_ok ?_))
  · (first | exact trivial | omega | (simp only [In64] at *; omega) | (simp [In64] at *; omega) | (simp_all; done) | skip)
  · (simp only [argsM, argM1, peekG, peekS, scA, sc1, ren, ren1, List.map_cons, List.map_nil, List.append_nil, List.cons_append, List.nil_append, enA, ev0, evA, evB, evP, fl, gp, tab, simprocAttr, reduceCtorEq, reduceIte]; try trivial)
    exact ⟨by rw [hl4], all_up (by decide) hl⟩
  simp only [putM, kills, hset, List.take_succ_cons, List.take_zero, List.drop_succ_cons, List.drop_zero, List.range', Blk.ren, ren, ren1, List.map_cons, List.map_nil, List.cons_append, List.nil_append, List.append_nil, List.length_cons, List.length_nil, ev0, evA, evB, evP, fl, gp, tab, simprocAttr, reduceCtorEq, reduceIte]
  refine fin_run ?_ (hK _ ?_) <;> clear hK <;> clear K
  · (first | exact trivial | omega | (simp only [In64] at *; omega) | (simp [In64] at *; omega) | (simp_all; done) | skip)
  simp only [Tryd.results99, PostG, endG, rvsA, rvA, mkTup, ev0, evA, evB, evP, fl, gp, tab, simprocAttr, reduceCtorEq, reduceIte]
  all_goals (exact ⟨[0, 1, 2, 3, 9, 5, 6, 7, 8], rfl, rfl, by simp only [leq, leA, ev0, evA, evB, evP, fl, gp, tab, simprocAttr, reduceCtorEq, reduceIte] <;> first | trivial | trace_state⟩)

set_option maxHeartbeats 8000000 in
set_option maxRecDepth 20000 in
theorem all_c (h : GT n m n e) (h' : GT N M N d) (hn : n ≤ 24) (hN : N ≤ 24) (hm : m.length ≤ 1000000000000000) (hM : M.length ≤ 1000000000000000) (W : List (List Int)) (hW : W = hsq n (op m n) e N (op M N) d (gl n (op m n) e n) (gl n (op m n) e n) []) (hne : W ≠ [])
    (ys : List (List Int)) (hperm : W.Perm ys) (hs : ys.Pairwise fun v w => cmpL v w < 0) :
    FnC Tryd.prog 38 [gp n m, gp N M] (.tup [if W.length ≤ 1000 then .list (ll ys) else .list [], fl (if W.length ≤ 1000 then 0 else 9, 0)]) := by
  have htg : tg n m N M = (0, 0) := tg_ok h h'
  have hyl := hperm.length_eq
  have htk : List.take W.length (ll ys) = ll ys := List.take_of_length_le (by rw [ll_length]; omega)
  have hb := homBoth_c n m N M hm hM
  rw [htg] at hb
  obtain ⟨j, b, hf, hj1, hj2⟩ : ∃ j b, foldS (prA (fun _ => true) fun _ => True) [] (pls W) = (j, b) ∧ (W.length ≤ 1000 → b = true ∧ j = pls W) ∧ (¬ W.length ≤ 1000 → b = false ∧ ¬ j.length ≤ 1000) := by
    have e1 : ([] ++ (pls W).filter fun _ => true) = pls W := by simp
    by_cases hw : W.length ≤ 1000
    · have := foldA (fun _ => true) (fun _ => True) (pls W) [] (by simp) (by rw [e1]; simpa [pls] using hw)
      rw [e1] at this
      exact ⟨_, _, this, fun _ => ⟨rfl, rfl⟩, fun h => absurd hw h⟩
    · obtain ⟨j, h1, h2⟩ := foldA_no (fun _ => true) (fun _ => True) (pls W) [] (by simp) (by rw [e1]; simpa [pls] using hw)
      exact ⟨j, false, h1, fun h => absurd h hw, fun _ => ⟨rfl, h2⟩⟩
  have hg1 : decide (((n : Nat) : Int) > 24) = false := by simp; omega
  have hg2 : decide (((N : Nat) : Int) > 24) = false := by simp; omega
  refine fnc_ofR tab_ok Tryd.func38 rfl (by kernel_rfl) (by rw [Tryd.ntmps38]; exact Nat.le_add_left 2 _) ?_; rw [Tryd.ntmps38]
  refine hr_seqH ?_
  refine hk_region fun K hK => runs_eval tab_ok ?_
  simp only [ev0, evA, evB, evP, fl, gp, tab, simprocAttr, reduceCtorEq, reduceIte]
  refine fin_run ?_ (hK _ ?_) <;> clear hK <;> clear K
  · (first | exact trivial | omega | (simp only [In64] at *; omega) | (simp [In64] at *; omega) | (simp_all; done) | skip)
  refine qa (hr_seqH (qm ?_))
  refine hk_region fun K hK => runs_eval tab_ok ?_
  simp only [ev0, evA, evB, evP, fl, gp, tab, simprocAttr, reduceCtorEq, reduceIte]
  refine fin_stop trivial (runs_call (hb) rfl rfl rfl (by simp only [dstOk, Nat.reduceLT]) (by repeat (first | exact trivial | constructor)) (runs_eval tab_ok ?_))
  simp only [ev0, evA, evB, evP, fl, gp, tab, simprocAttr, reduceCtorEq, reduceIte]
  refine fin_run ?_ (hK _ ?_) <;> clear hK <;> clear K
  · (first | exact trivial | omega | (simp only [In64] at *; omega) | (simp [In64] at *; omega) | (simp_all; done) | skip)
  refine qa (qm ?_)
  refine hk_region fun K hK => runs_eval tab_ok ?_
  simp only [ev0, evA, evB, evP, fl, gp, tab, simprocAttr, reduceCtorEq, reduceIte]
  refine fin_run ?_ (hK _ ?_) <;> clear hK <;> clear K
  · (first | exact trivial | omega | (simp only [In64] at *; omega) | (simp [In64] at *; omega) | (simp_all; done) | skip)
  refine qa ?_
  refine hk_cond rfl (fun hC1 => ?_) (fun hC1 => ?_)
  · (try simp only [nhs] at hC1)
    simp at hC1
  · (try simp only [nhs] at hC1)
    refine qh (qa (hr_seqH (qm ?_)))
    refine hk_region fun K hK => runs_eval tab_ok ?_
    simp only [ev0, evA, evB, evP, fl, gp, tab, simprocAttr, reduceCtorEq, reduceIte, hg1, hg2, beq_self_eq_true]
    refine fin_run ?_ (hK _ ?_) <;> clear hK <;> clear K
    · (first | exact trivial | omega | (simp only [In64] at *; omega) | (simp [In64] at *; omega) | (simp_all; done) | skip)
    refine qa ?_
    refine hk_cond rfl (fun hC2 => ?_) (fun hC2 => ?_)
    · (try simp only [nhs] at hC2)
      cases hC2
    · (try simp only [nhs] at hC2)
      refine qh (qa (hr_seqH ?_))
      refine hk_region fun K hK => runs_eval tab_ok ?_
      simp only [ev0, evA, evB, evP, fl, gp, tab, simprocAttr, reduceCtorEq, reduceIte]
      refine fin_run ?_ (hK _ ?_) <;> clear hK <;> clear K
      · (first | exact trivial | omega | (simp only [In64] at *; omega) | (simp [In64] at *; omega) | (simp_all; done) | skip)
      refine qa (hr_seq (hr_seqH ?_))
      refine hk_freeze 0 rfl rfl ?_
      refine hk_freeze 1 rfl rfl ?_
      refine hk_own0c 5 0 rfl rfl ?_
      simp only [hset, List.cons_append, List.nil_append, List.set_cons_zero, List.length_cons, List.length_nil, Nat.reduceAdd, Nat.zero_add]
      refine hk_pure 2 rfl (Nat.zero_le _) ?_
      refine hk_pure 3 rfl (Nat.zero_le _) ?_
      refine hk_region fun K hK => runs_eval tab_ok ?_
      simp only [ev0, evA, evB, evP, fl, gp, tab, simprocAttr, reduceCtorEq, reduceIte]
      refine fin_run ?_ (hK _ ?_) <;> clear hK <;> clear K
      · (first | exact trivial | omega | (simp only [In64] at *; omega) | (simp [In64] at *; omega) | (simp_all; done) | skip)
      refine qa (hr_block ?_)
      refine hr_cl 25 rfl ?_
      refine hr_range (gs := 25) (pp := 26) (κ := 3) (q := 4) (n := 39) (sl := [(4, .ptr 0 0), (5, .ptr 1 0), (7, .ptr 2 0)]) (Hs0 := HU (prA (fun _ => true) fun _ => True) []) (Hf := HU (prA (fun _ => true) fun _ => True) j) (b := b) (gf := 99) (cap := [.p (.ptr [.int .i64 n, .list (il m)]), .p (.ptr [.int .i64 N, .list (il M)])]) (rv := .p (.tup [])) [2, 3, 5, 7, 6] rfl rfl
        (fun r0 => by simp only [HU, prA]; simp only [leq, leA, ev0, evA, evB, evP, fl, gp, tab, simprocAttr, reduceCtorEq, reduceIte] <;> first | trivial | trace_state) rfl (by decide) ⟨fun _ => rfl, fun _ _ => rfl⟩ ⟨fun _ => rfl, fun _ _ => rfl⟩ (fun r0 => rfl) rfl rfl (fun r0 r1 => by simp only [HU, prA]; exact (by first | rfl | (simp [scQ, scA, sc1, mpKeep, notAnc, Blk.spc, opl_sc]; done)))
        (fun rec hr => all1_c (prA (fun _ => true) fun _ => True) h h' _ rfl (by rw [hr.params]; rfl) (fun i x hi hx => yld_of hr (by decide) rfl (by decide) (sl1 := (8, .p x) :: [(4, .ptr 0 0), (5, .ptr 1 0), (7, .ptr 2 0)]) (H0 := HU (prA (fun _ => true) fun _ => True) i) (H1 := HU (prA (fun _ => true) fun _ => True) ((prA (fun _ => true) fun _ => True).nx i x)) ⟨fun _ => rfl, fun _ _ => rfl⟩ ⟨fun _ => rfl, fun _ _ => rfl⟩ (fun r0 => ?_) (fun r0 => ?_)) (fun φ _ => ⟨_, rfl, trivial⟩) rfl [] ⟨by decide, rfl⟩ (hW ▸ hf)) ?_ ?_
      · simp only [HU, prA, ancs, List.cons_append, List.nil_append, Nat.reduceAdd, Nat.zero_add, if_true, Bool.not_true, Bool.false_or]
        refine hk_region fun K hK => runs_eval tab_ok ?_
        simp only [ev0, evA, evB, evP, fl, gp, tab, simprocAttr, reduceCtorEq, reduceIte]
        refine fin_run trivial (hK _ ?_) <;> clear hK <;> clear K
        refine ⟨rfl, [0, 1, 2, 3, 4, 5, 6, 7, 8], ?_⟩
        simp only [leq, leA, ev0, evA, evB, evP, fl, gp, tab, simprocAttr, reduceCtorEq, reduceIte] <;> first | trivial | trace_state
      · obtain ⟨v, rfl, _⟩ := hx
        obtain ⟨hi1, hi2⟩ := hi
        have hio := opl_ok hi2
        simp only [HU, prA, ancs, List.cons_append, List.nil_append, Nat.reduceAdd, Nat.zero_add, if_true, Bool.not_true, Bool.false_or]
        have ei : (if i.length ≤ 1000 then (0 : Int) else 9) = 0 := if_pos hi1
        rw [ei]
        refine ql (qm ?_)
        refine hk_region fun K hK => runs_eval tab_ok ?_
        simp only [ev0, evA, evB, evP, fl, gp, tab, simprocAttr, reduceCtorEq, reduceIte]
        refine fin_run ?_ (hK _ ?_) <;> clear hK <;> clear K
        · exact ⟨hio, Nat.le_refl _, by omega, by omega⟩
        refine qa (qm ?_)
        refine hk_region fun K hK => runs_eval tab_ok ?_
        simp only [ev0, evA, evB, evP, fl, gp, tab, simprocAttr, reduceCtorEq, reduceIte]
        refine fin_run ?_ (hK _ ?_) <;> clear hK <;> clear K
        · (first | exact trivial | omega | (simp only [In64] at *; omega) | (simp [In64] at *; omega) | (simp_all; done) | skip)
        refine qa ?_
        refine hk_cond rfl (fun hC3 => ?_) (fun hC3 => ?_)
        · (try simp only [nhs] at hC3)
          refine qm ?_
          refine hk_region fun K hK => runs_eval tab_ok ?_
          simp only [ev0, evA, evB, evP, fl, gp, tab, simprocAttr, reduceCtorEq, reduceIte]
          refine fin_stop trivial (runs_call (homFlt_c 9 0) rfl rfl rfl (by simp only [dstOk, Nat.reduceLT]) (by repeat (first | exact trivial | constructor)) (runs_eval tab_ok ?_))
          simp only [ev0, evA, evB, evP, fl, gp, tab, simprocAttr, reduceCtorEq, reduceIte]
          refine fin_run ?_ (hK _ ?_) <;> clear hK <;> clear K
          · (first | exact trivial | omega | (simp only [In64] at *; omega) | (simp [In64] at *; omega) | (simp_all; done) | skip)
          refine qa (qk (qe ?_))
          have e9 : ¬ (i ++ [PV.list (il v)]).length ≤ 1000 := by simp; omega
          refine ⟨by rw [if_neg (by simp; omega)], [0, 1, 2, 3, 9, 5, 6, 7, 8], ?_⟩
          rw [if_neg e9]
          simp only [leq, leA, ev0, evA, evB, evP, fl, gp, tab, simprocAttr, reduceCtorEq, reduceIte] <;> first | trivial | (simp; done) | trace_state
        · (try simp only [nhs] at hC3)
          refine qh (qd ?_)
          have e9 : (i ++ [PV.list (il v)]).length ≤ 1000 := by simp; omega
          refine ⟨by rw [if_pos (by simp; omega)], [0, 1, 2, 3, 9, 5, 6, 7, 8], ?_⟩
          rw [if_pos e9]
          simp only [leq, leA, ev0, evA, evB, evP, fl, gp, tab, simprocAttr, reduceCtorEq, reduceIte] <;> first | trivial | (simp; done) | trace_state
      · intro hbt
        have hw : W.length ≤ 1000 := Classical.byContradiction fun hw => by rw [(hj2 hw).1] at hbt; cases hbt
        obtain ⟨_, hjW⟩ := hj1 hw
        rw [show pls W = ll W from rfl] at hjW
        subst hjW
        simp only [hw, if_true]
        simp only [HU, prA, ancs, List.cons_append, List.nil_append, Nat.reduceAdd, Nat.zero_add]
        refine qd (qa (hr_seqH ?_))
        refine hk_region fun K hK => runs_eval tab_ok ?_
        simp only [ev0, evA, evB, evP, fl, gp, tab, simprocAttr, reduceCtorEq, reduceIte]
        refine fin_stop ?_ (runs_callM [4] (sortL_c hne (by omega) (fun v hv => by
          rw [hW] at hv
          obtain ⟨φ, _, rfl⟩ := hsq_mem _ _ v hv
          rw [tbm_len]; omega) hperm hs) rfl rfl ?_ (by simp only [leA, ev0, evA, evB, evP, fl, gp, tab, simprocAttr, reduceCtorEq, reduceIte]; first | trivial | (simp only [ll_takeL]; first | trivial | (repeat constructor; done)) | (repeat constructor)) (by decide) (by first | rfl | (simp only [List.length_cons, List.length_nil, List.length_append]; decide)) (by first | rfl | (simp only [scM, opl_sc, List.all_cons, List.all_nil, List.length_cons, List.length_nil]; first | rfl | decide) | (simp [scM, scA, sc1, mpKeep, notAnc]; done)) (by simp only [dstOk, Nat.reduceLT]) (runs_eval tab_ok ?_))
        · (first | exact trivial | omega | (simp only [In64] at *; omega) | (simp [In64] at *; omega) | (simp_all; done) | skip)
        · (simp only [argsM, argM1, peekG, peekS, scA, sc1, ren, ren1, List.map_cons, List.map_nil, List.append_nil, List.cons_append, List.nil_append, enA, ev0, evA, evB, evP, fl, gp, tab, simprocAttr, reduceCtorEq, reduceIte]; try trivial)
        simp only [putM, hset, List.range', Blk.ren, ren, ren1, List.map_cons, List.map_nil, List.cons_append, List.nil_append, List.append_nil, List.length_cons, List.length_nil, ev0, evA, evB, evP, fl, gp, tab, simprocAttr, reduceCtorEq, reduceIte]
        refine fin_run ?_ (hK _ ?_) <;> clear hK <;> clear K
        · (first | exact trivial | omega | (simp only [In64] at *; omega) | (simp [In64] at *; omega) | (simp_all; done) | skip)
        refine qa (hr_seqH ?_)
        refine hk_region fun K hK => runs_eval tab_ok ?_
        simp only [ev0, evA, evB, evP, fl, gp, tab, simprocAttr, reduceCtorEq, reduceIte]
        refine fin_run ?_ (hK _ ?_) <;> clear hK <;> clear K
        · (first | exact trivial | omega | (simp only [In64] at *; omega) | (simp [In64] at *; omega) | (simp_all; done) | skip)
        refine qa (hr_of_hk (qk ?_))
        simp only [Tryd.results38, enA, ev0, evA, evB, evP, fl, gp, tab, simprocAttr, reduceCtorEq, reduceIte]
        rw [htk]
        exact ⟨⟨by omega, ll_all _⟩, rfl⟩
      · intro hbf
        have hw : ¬ W.length ≤ 1000 := fun hw => by rw [(hj1 hw).1] at hbf; cases hbf
        have hj3 := (hj2 hw).2
        simp only [hw, if_false]
        simp only [HU, prA, ancs, List.cons_append, List.nil_append, Nat.reduceAdd, Nat.zero_add, hj3, if_false]
        refine qe (qb ?_)
        simp only [Tryd.results38, enA, ev0, evA, evB, evP, fl, gp, tab, simprocAttr, reduceCtorEq, reduceIte]
        all_goals (trace_state)
end
end Go.Proofs.YtboadfahlflmhaaDoor

/-
  Walks: lists of lists, one to one, one map then another. Conditions: none.
-/
set_option linter.all false
namespace Go.Proofs.YtboadfahlflmhaaDoor
open Go.Pv

/-- A list of so many things has each of them. -/
def onto1 (l : List Int) (n : Nat) : Prop := (∀ i, i < n → ((i : Nat) : Int) ∈ l) ∧ l.length = n
instance (l : List Int) (n : Nat) : Decidable (onto1 l n) := by unfold onto1; infer_instance

/-- One map, then another. -/
def cmpl (p q : List Int) : List Int := p.map fun x => q.getD x.toNat 0

end Go.Proofs.YtboadfahlflmhaaDoor

/-
  Walks: rows of yes and no; the ring of so many things. Conditions: none.
-/
set_option linter.all false
namespace Go.Proofs.YtboadfahlflmhaaDoor
open Go.Pv

/-- A row of yes and no. -/
def hbl (n : Nat) (g : Nat → Bool) : List PV := (List.range n).map fun i => .bool (g i)
theorem hbl_len (n : Nat) (g : Nat → Bool) : (hbl n g).length = n := by simp [hbl]
theorem hbl_get {n : Nat} {g : Nat → Bool} {i : Nat} (h : i < n) : (hbl n g).getD i default = .bool (g i) := by
  simp [hbl, List.getD, List.getElem?_eq_getElem, h]
theorem hbl_all (n : Nat) (g : Nat → Bool) : (hbl n g).all PV.one = true := by simp [hbl, PV.one]

def ixb (n : Nat) (g : Nat → Bool) : Int := match fst' (fun i => !g i) n with | some i => (i : Int) | none => -1
theorem ixb_iff (n : Nat) (g : Nat → Bool) : ixb n g ≥ 0 ↔ ∃ i, i < n ∧ g i = false := by
  unfold ixb
  cases h : fst' (fun i => !g i) n with
  | none =>
    constructor
    · intro h; simp at h
    · rintro ⟨i, hi, e⟩
      have := fst_spec0 h i hi
      rw [e] at this; simp at this
  | some i =>
    obtain ⟨h1, h2, _⟩ := fst_spec h
    exact ⟨fun _ => ⟨i, h1, by simpa using h2⟩, fun _ => by simp⟩

theorem indexB_c (n : Nat) (g : Nat → Bool) (hn : n ≤ 1000000) : FnC Tryd.prog 131 [.list (hbl n g), .bool false] (.int .i64 (ixb n g)) := by
  refine fnc_of tab_ok Tryd.func131 rfl (by kernel_rfl) (by rw [Tryd.ntmps131]; exact Nat.le_add_left 2 _) ?_; rw [Tryd.ntmps131]
  refine qm ?_
  refine hk_region fun K hK => runs_eval tab_ok ?_
  simp only [ev0, evA, evB, evP, fl, gp, tab, simprocAttr, reduceCtorEq, reduceIte]
  refine fin_run trivial (hK _ ?_) <;> clear hK <;> clear K
  refine qa (qm (qm ?_))
  refine hk_region fun K hK => runs_eval tab_ok ?_
  simp only [ev0, evA, evB, evP, fl, gp, tab, simprocAttr, reduceCtorEq, reduceIte, hbl_len]
  refine fin_run trivial (hK _ ?_) <;> clear hK <;> clear K
  refine qa (ql ?_)
  refine hk_loop (ι := Nat) (fun i => ⟨19, [(0, .p (.list (hbl n g))), (1, .p (.bool false)), (7, .p (.int .i64 n)), (8, .p (.int .i64 i))], []⟩) (fun i => i ≤ n ∧ ∀ j, j < i → g j = true) (fun i => n - i) 0 ⟨Nat.zero_le _, fun j hj => by omega⟩ [] (by simp only [leq, leA, ev0, evA, evB, evP, fl, gp, tab, simprocAttr, reduceCtorEq, reduceIte, hbl_len] <;> trivial) fun i hi => ?_
  obtain ⟨hi1, hi2⟩ := hi
  refine qm ?_
  refine hk_region fun K hK => runs_eval tab_ok ?_
  simp only [ev0, evA, evB, evP, fl, gp, tab, simprocAttr, reduceCtorEq, reduceIte]
  refine fin_run trivial (hK _ ?_) <;> clear hK <;> clear K
  refine qa (qm ?_)
  refine hk_cond rfl (fun hC1 => ?_) (fun hC1 => ?_)
  · (try simp only [nhs] at hC1)
    have hlt : i < n := by omega
    refine qh (qa (qm (ql (qm ?_))))
    refine hk_region fun K hK => runs_eval tab_ok ?_
    simp only [ev0, evA, evB, evP, fl, gp, tab, simprocAttr, reduceCtorEq, reduceIte]
    refine fin_run trivial (hK _ ?_) <;> clear hK <;> clear K
    refine qa (qm ?_)
    refine hk_region fun K hK => runs_eval tab_ok ?_
    simp only [ev0, evA, evB, evP, fl, gp, tab, simprocAttr, reduceCtorEq, reduceIte, hbl_len, hbl_get hlt]
    refine fin_run ?_ (hK _ ?_) <;> clear hK <;> clear K
    · (first | exact trivial | omega | (simp only [In64] at *; omega) | (simp [In64] at *; omega) | (simp_all; done) | skip)
    refine qa ?_
    refine hk_cond rfl (fun hC2 => ?_) (fun hC2 => ?_)
    · (try simp only [nhs] at hC2)
      refine qm ?_
      refine hk_region fun K hK => runs_eval tab_ok ?_
      simp only [ev0, evA, evB, evP, fl, gp, tab, simprocAttr, reduceCtorEq, reduceIte]
      refine fin_run trivial (hK _ ?_) <;> clear hK <;> clear K
      refine qa (qk (qe (qb (qb (qe (qb ?_))))))
      simp only [Tryd.results131, enA, ev0, evA, evB, evP, fl, gp, tab, simprocAttr, reduceCtorEq, reduceIte]
      all_goals (unfold ixb; rw [fst_some hlt (by cases hg : g i <;> simp_all) fun j hj => by simp [hi2 j hj]])
    · (try simp only [nhs] at hC2)
      refine qh (qd (qa ?_))
      refine hk_region fun K hK => runs_eval tab_ok ?_
      simp only [ev0, evA, evB, evP, fl, gp, tab, simprocAttr, reduceCtorEq, reduceIte]
      refine fin_run ?_ (hK _ ?_) <;> clear hK <;> clear K
      · (first | exact trivial | omega | (simp only [In64] at *; omega) | (simp [In64] at *; omega) | (simp_all; done) | skip)
      refine qa ?_
      refine ⟨i + 1, [], ⟨by omega, fun j hj => ?_⟩, by omega, ?_⟩
      · by_cases hj : j = i
        · subst hj; (cases hg : g j <;> simp_all)
        · exact hi2 j (by omega)
      · simp only [leq, leA, ev0, evA, evB, evP, fl, gp, tab, simprocAttr, reduceCtorEq, reduceIte] <;> first | trivial | omega
  · (try simp only [nhs] at hC1)
    refine qj (qc (qc (qf (qa (qm ?_)))))
    refine hk_region fun K hK => runs_eval tab_ok ?_
    simp only [ev0, evA, evB, evP, fl, gp, tab, simprocAttr, reduceCtorEq, reduceIte]
    refine fin_run trivial (hK _ ?_) <;> clear hK <;> clear K
    refine qa (qk ?_)
    simp only [Tryd.results131, enA, ev0, evA, evB, evP, fl, gp, tab, simprocAttr, reduceCtorEq, reduceIte]
    all_goals (unfold ixb; rw [fst_none fun j hj => by simp [hi2 j (by omega)]])

theorem containsB_c (n : Nat) (g : Nat → Bool) (hn : n ≤ 1000000) : FnC Tryd.prog 80 [.list (hbl n g), .bool false] (.bool (decide (ixb n g ≥ 0))) := by
  refine fnc_of tab_ok Tryd.func80 rfl (by kernel_rfl) (by rw [Tryd.ntmps80]; exact Nat.le_add_left 2 _) ?_; rw [Tryd.ntmps80]
  refine qm ?_
  refine hk_region fun K hK => runs_eval tab_ok ?_
  simp only [ev0, evA, evB, evP, fl, gp, tab, simprocAttr, reduceCtorEq, reduceIte]
  refine fin_run trivial (hK _ ?_) <;> clear hK <;> clear K
  refine qa (qm ?_)
  refine hk_region fun K hK => runs_eval tab_ok ?_
  simp only [ev0, evA, evB, evP, fl, gp, tab, simprocAttr, reduceCtorEq, reduceIte]
  refine fin_stop trivial (runs_call (indexB_c n g hn) rfl rfl rfl (by simp only [dstOk, Nat.reduceLT]) (by repeat (first | exact trivial | constructor)) (runs_eval tab_ok ?_))
  simp only [ev0, evA, evB, evP, fl, gp, tab, simprocAttr, reduceCtorEq, reduceIte]
  refine fin_run trivial (hK _ ?_) <;> clear hK <;> clear K
  refine qa (qk ?_)
  simp only [Tryd.results80, enA, ev0, evA, evB, evP, fl, gp, tab, simprocAttr, reduceCtorEq, reduceIte]
  all_goals ((first | exact rfl | exact ⟨rfl, rfl⟩ | exact ⟨rfl, rfl, rfl⟩ | exact ⟨trivial, rfl⟩ | exact ⟨Nat.le_refl _, rfl⟩ | trivial | (simp; done)))
end Go.Proofs.YtboadfahlflmhaaDoor

/-
  The semidirect product of two groups: plain laws, with no program in sight. Conditions: none.
-/
set_option linter.all false
namespace Go.Proofs.YtboadfahlflmhaaDoor
open Go.Pv

structure Acts (n n' : Nat) (f f' al : Nat → Nat → Nat) : Prop where
  lt : ∀ x i, x < n' → i < n → al x i < n
  hom : ∀ x i j, x < n' → i < n → j < n → al x (f i j) = f (al x i) (al x j)
  onto : ∀ x i, x < n' → i < n → ∃ j, j < n ∧ al x j = i
  mul : ∀ x y i, x < n' → y < n' → i < n → al (f' x y) i = al x (al y i)

section
variable {n n' e e' : Nat} {f f' al : Nat → Nat → Nat}

theorem Acts.one (A : Acts n n' f f' al) (G' : Grp n' f' e') {i : Nat} (hi : i < n) : al e' i = i := by
  obtain ⟨j, hj, rfl⟩ := A.onto e' i G'.el hi
  rw [← A.mul e' e' j G'.el G'.el hj, G'.one_l e' G'.el]
theorem Acts.el (A : Acts n n' f f' al) (G : Grp n f e) {x : Nat} (hx : x < n') : al x e = e := by
  have h1 := A.lt x e hx G.el
  have h2 := A.hom x e e hx G.el G.el
  rw [G.one_l e G.el] at h2
  exact (G.idem h1).1 h2.symm

end
end Go.Proofs.YtboadfahlflmhaaDoor

/-
  Walks: the ring of so many things; tables by a rule. Conditions: none.
-/
set_option linter.all false
namespace Go.Proofs.YtboadfahlflmhaaDoor
open Go.Pv

theorem ringOf_c (n : Nat) (h1 : 1 ≤ n) (hn : n ≤ 60) : FnC Tryd.prog 39 [.int .i64 n] (gp n (tbl (fun a b => (((a + b) % n : Nat) : Int)) n)) := by
  have hsq := sq_le hn
  have hlen := tbr_len (fun a b => (((a + b) % n : Nat) : Int)) n
  refine fnc_of tab_ok Tryd.func39 rfl (by kernel_rfl) (by rw [Tryd.ntmps39]; exact Nat.le_add_left 1 _) ?_; rw [Tryd.ntmps39]
  refine qm ?_
  refine hk_region fun K hK => runs_eval tab_ok ?_
  simp only [ev0, evA, evB, evP, fl, gp, tab, simprocAttr, reduceCtorEq, reduceIte]
  refine fin_run ?_ (hK _ ?_) <;> clear hK <;> clear K
  · (first | exact trivial | omega | (simp only [In64] at *; omega) | (simp [In64] at *; omega) | (simp_all; done) | skip)
  refine qa (qm ?_)
  refine hk_region fun K hK => runs_eval tab_ok ?_
  simp only [ev0, evA, evB, evP, fl, gp, tab, simprocAttr, reduceCtorEq, reduceIte]
  refine fin_run ?_ (hK _ ?_) <;> clear hK <;> clear K
  · (first | exact trivial | omega | (simp only [In64] at *; omega) | (simp [In64] at *; omega) | (simp_all; done) | skip)
  refine qa (qm (qm ?_))
  refine hk_own0c 1 1 rfl rfl ?_
  simp only [hset, List.cons_append, List.nil_append, List.set, List.length_cons, List.length_nil]
  refine hk_region fun K hK => runs_eval tab_ok ?_
  simp only [ev0, evA, evB, evP, fl, gp, tab, simprocAttr, reduceCtorEq, reduceIte]
  refine fin_run trivial (hK _ ?_) <;> clear hK <;> clear K
  refine qa (ql ?_)
  refine hk_loop (ι := Nat) (fun a => ⟨29, [(0, .p (.int .i64 n)), (2, .ptr 0 0), (3, .ptr 1 0), (4, .p (.int .i64 a))], [.own [.p (.int .i64 0), .p .nil], .own [.p (.int .i64 n), .sl 2 0 (tbr (fun a b => (((a + b) % n : Nat) : Int)) n (a * n)).length], .own (ol (tbr (fun a b => (((a + b) % n : Nat) : Int)) n (a * n)))]⟩) (fun a => a ≤ n) (fun a => n - a) 0 (Nat.zero_le _) [0, 1, 2] (by rw [Nat.zero_mul]; simp only [leq, leA, ev0, evA, evB, evP, fl, gp, tab, simprocAttr, reduceCtorEq, reduceIte] <;> simp [tbr, rg, ol_nil]) fun a ha => ?_
  refine qm (qm ?_)
  refine hk_region fun K hK => runs_eval tab_ok ?_
  simp only [ev0, evA, evB, evP, fl, gp, tab, simprocAttr, reduceCtorEq, reduceIte]
  refine fin_run trivial (hK _ ?_) <;> clear hK <;> clear K
  refine qa ?_
  refine hk_cond rfl (fun hC1 => ?_) (fun hC1 => ?_)
  · (try simp only [nhs] at hC1)
    have hal : a < n := by omega
    refine qh (qa (qm (ql (qm ?_))))
    refine hk_region fun K hK => runs_eval tab_ok ?_
    simp only [ev0, evA, evB, evP, fl, gp, tab, simprocAttr, reduceCtorEq, reduceIte]
    refine fin_run trivial (hK _ ?_) <;> clear hK <;> clear K
    refine qa (ql ?_)
    refine hk_loop (ι := Nat) (fun b => ⟨29, [(0, .p (.int .i64 n)), (2, .ptr 0 0), (3, .ptr 1 0), (4, .p (.int .i64 a)), (5, .p (.int .i64 b))], [.own [.p (.int .i64 0), .p .nil], .own [.p (.int .i64 n), .sl 2 0 (tbr (fun a b => (((a + b) % n : Nat) : Int)) n (a * n + b)).length], .own (ol (tbr (fun a b => (((a + b) % n : Nat) : Int)) n (a * n + b)))]⟩) (fun b => b ≤ n) (fun b => n - b) 0 (Nat.zero_le _) [0, 1, 2] (by rw [Nat.add_zero]; simp only [leq, leA, ev0, evA, evB, evP, fl, gp, tab, simprocAttr, reduceCtorEq, reduceIte] <;> trivial) fun b hb => ?_
    refine qm (qm ?_)
    refine hk_region fun K hK => runs_eval tab_ok ?_
    simp only [ev0, evA, evB, evP, fl, gp, tab, simprocAttr, reduceCtorEq, reduceIte]
    refine fin_run trivial (hK _ ?_) <;> clear hK <;> clear K
    refine qa ?_
    refine hk_cond rfl (fun hC2 => ?_) (fun hC2 => ?_)
    · (try simp only [nhs] at hC2)
      have hbl : b < n := by omega
      have hat := at_lt hal hbl
      have hl := hlen (a * n + b)
      have hab : (a : Int) + (b : Int) = ((a + b : Nat) : Int) := rfl
      refine qh (qa (qm (ql ?_)))
      refine hk_draw mixed (by kernel_rfl) fun K hK => runs_eval tab_ok ?_
      simp only [ev0, evA, evB, evP, fl, gp, tab, simprocAttr, reduceCtorEq, reduceIte, hab, tm_nat]
      refine fin_run ?_ (hK _ ?_) <;> clear hK <;> clear K
      · (first | exact trivial | omega | (simp only [In64] at *; omega) | (simp [In64] at *; omega) | (simp_all; done) | skip)
      refine qd (qa ?_)
      refine hk_region fun K hK => runs_eval tab_ok ?_
      simp only [ev0, evA, evB, evP, fl, gp, tab, simprocAttr, reduceCtorEq, reduceIte]
      refine fin_run ?_ (hK _ ?_) <;> clear hK <;> clear K
      · (first | exact trivial | omega | (simp only [In64] at *; omega) | (simp [In64] at *; omega) | (simp_all; done) | skip)
      refine qa ?_
      refine ⟨b + 1, [0, 1, 3], by omega, by omega, ?_⟩
      rw [tbr_succ _ hbl]
      simp only [leq, leA, ev0, evA, evB, evP, fl, gp, tab, simprocAttr, reduceCtorEq, reduceIte] <;> first | trivial | omega
    · (try simp only [nhs] at hC2)
      have hbn : b = n := by omega
      refine qj (qc (qc (qf (qd (qa ?_)))))
      refine hk_region fun K hK => runs_eval tab_ok ?_
      simp only [ev0, evA, evB, evP, fl, gp, tab, simprocAttr, reduceCtorEq, reduceIte]
      refine fin_run ?_ (hK _ ?_) <;> clear hK <;> clear K
      · (first | exact trivial | omega | (simp only [In64] at *; omega) | (simp [In64] at *; omega) | (simp_all; done) | skip)
      refine qa ?_
      refine ⟨a + 1, [0, 1, 2], by omega, by omega, ?_⟩
      rw [hbn, show (a + 1) * n = a * n + n by rw [Nat.add_mul, Nat.one_mul]]
      simp only [leq, leA, ev0, evA, evB, evP, fl, gp, tab, simprocAttr, reduceCtorEq, reduceIte] <;> first | trivial | omega
  · (try simp only [nhs] at hC1)
    have han : a = n := by omega
    refine qj (qc (qc (qf (qa (qm ?_)))))
    refine hk_region fun K hK => runs_eval tab_ok ?_
    simp only [ev0, evA, evB, evP, fl, gp, tab, simprocAttr, reduceCtorEq, reduceIte]
    refine fin_run ?_ (hK _ ?_) <;> clear hK <;> clear K
    · (first | exact trivial | omega | (simp only [In64] at *; omega) | (simp [In64] at *; omega) | (simp_all; done) | skip)
    refine qa (qk ?_)
    simp only [Tryd.results39, enA, ev0, evA, evB, evP, fl, gp, tab, simprocAttr, reduceCtorEq, reduceIte]
    all_goals (simp [han, tbl])
end Go.Proofs.YtboadfahlflmhaaDoor

/-
  Semidirect products: the fault, and what no fault says. Conditions: none.
-/
set_option linter.all false
namespace Go.Proofs.YtboadfahlflmhaaDoor
open Go.Pv

def mgd (m' : List Int) (n' : Nat) (ls : List (List Int)) (x : Nat) : Prop := ∀ y, y < n' → ls.getD (op m' n' x y) [] = cmpl (ls.getD y []) (ls.getD x [])
instance (m' : List Int) (n' : Nat) (ls : List (List Int)) (x : Nat) : Decidable (mgd m' n' ls x) := by unfold mgd; infer_instance
section
variable {N N' : Int} {m m' : List Int} {ls : List (List Int)} {n n' : Nat}
end
end Go.Proofs.YtboadfahlflmhaaDoor

/-
  Walks: prod.Semi. Conditions: none.
-/
set_option linter.all false
namespace Go.Proofs.YtboadfahlflmhaaDoor
open Go.Pv

def hits (l : List Int) (k i : Nat) : Bool := decide (((i : Nat) : Int) ∈ l.take k)
theorem hbl_new (n : Nat) : List.replicate n (AV.p (.bool false)) = opl (hbl n fun _ => false) := by
  refine List.ext_getElem (by simp [opl, hbl]) fun i h1 h2 => ?_
  simp [opl, hbl]
theorem hbl_set (n : Nat) (g : Nat → Bool) (v : Nat) : (opl (hbl n g)).set v (AV.p (.bool true)) = opl (hbl n fun i => decide (i = v) || g i) := by
  refine List.ext_getElem (by simp [opl, hbl]) fun i h1 h2 => ?_
  simp only [opl, hbl, List.getElem_set, List.getElem_map, List.getElem_range]
  by_cases h : v = i
  · subst h; simp
  · rw [if_neg h]; simp [Ne.symm h]
theorem hits_zero (l : List Int) (i : Nat) : hits l 0 i = false := by simp [hits]
theorem hits_succ {l : List Int} {k v : Nat} (hk : k < l.length) (hv : l.getD k 0 = ((v : Nat) : Int)) (i : Nat) : hits l (k + 1) i = (decide (i = v) || hits l k i) := by
  unfold hits
  have e : l[k] = ((v : Nat) : Int) := by rw [← hv]; simp [List.getD, List.getElem?_eq_getElem hk]
  rw [List.take_succ_eq_append_getElem hk, e, Bool.eq_iff_iff]
  simp only [List.mem_append, List.mem_singleton, Bool.or_eq_true, decide_eq_true_eq]
  constructor
  · rintro (h | h)
    · exact .inr h
    · exact .inl (by omega)
  · rintro (h | h)
    · exact .inr (by omega)
    · exact .inl h
theorem hbl_congr {n : Nat} {g g' : Nat → Bool} (h : ∀ i, i < n → g i = g' i) : hbl n g = hbl n g' := by
  unfold hbl
  exact List.map_congr_left fun i hi => by rw [h i (List.mem_range.1 hi)]

end Go.Proofs.YtboadfahlflmhaaDoor

/-
  Walks: all automorphisms of a group. Conditions: none.
-/
set_option linter.all false
namespace Go.Proofs.YtboadfahlflmhaaDoor
open Go.Pv
section
variable {n e N d : Nat} {m M : List Int} {σ : Type}
theorem autos1_c (p : Prot σ) (h : GT n m n e) (L : List Nat) (hL : L = gl n (op m n) e n) {rec : Loop} (hrp : rec.params.size = 1) {l : List AV} (hY : Rounds Tryd.prog p rec l) (hokx : ∀ φ, Hmo n (op m n) n (op m n) φ → p.okx (.list (il (tbm n φ))))
    (hl : l.all (sc1 4) = true) (i : σ) (hi : p.ok i) {j : σ} {b : Bool} (hf : foldS p i (pls (hsq n (op m n) e n (op m n) e L L [])) = (j, b)) :
    FnQ Tryd.prog 4 78 [.yv 3 l rec.tmps, .p (.ptr [.int .i64 n, .list (il m)])] (HU p i (.lp rec)) (.p (.tup [])) (HU p j (.lp (recB b rec))) := by
  have hE := each_c p h h L hL hrp hY hokx hl i hi hf
  have hl4 : l.map (ren1 [0, 1, 2, 3, 4]) = l := (List.map_congr_left fun x hx => ren1_range (n := 5) (List.all_eq_true.1 (all_up (by decide) hl) x hx)).trans (List.map_id _)
  unfold HU at hE ⊢
  refine fnq_of (q := 4) tab_ok Tryd.func78 rfl (by kernel_rfl) (by rw [Tryd.ntmps78]; exact Nat.le_add_left 2 _) ?_; rw [Tryd.ntmps78]; simp only [ancs, entA, List.length_cons, List.length_nil, List.cons_append, List.nil_append, Nat.reduceAdd, Nat.zero_add]
  refine hk_region fun K hK => runs_eval tab_ok ?_
  simp only [ev0, evA, evB, evP, fl, gp, tab, simprocAttr, reduceCtorEq, reduceIte]
  refine fin_stop ?_ (runs_callQ [0, 1, 2, 3, 4] (hE) rfl rfl ?_ (by simp only [leA, ev0, evA, evB, evP, fl, gp, tab, simprocAttr, reduceCtorEq, reduceIte]; first | trivial | (simp only [ll_takeL]; first | trivial | (repeat constructor; done)) | (repeat constructor)) (by decide) (by first | rfl | (simp only [List.length_cons, List.length_nil, List.length_append]; decide)) (by first | rfl | (simp [scQ, scA, sc1, mpKeep, notAnc, Blk.spc, opl_sc]; done)) (by simp only [dstOk, Nat.reduceLT]) (runs_eval tab_ok ?_))
  · (first | exact trivial | omega | (simp only [In64] at *; omega) | (simp [In64] at *; omega) | (simp_all; done) | skip)
  · (simp only [argsM, argM1, peekG, peekS, scA, sc1, ren, ren1, List.map_cons, List.map_nil, List.append_nil, List.cons_append, List.nil_append, enA, ev0, evA, evB, evP, fl, gp, tab, simprocAttr, reduceCtorEq, reduceIte]; try trivial)
    exact ⟨by rw [hl4], all_up (by decide) hl⟩
  simp only [putM, kills, hset, List.take_succ_cons, List.take_zero, List.drop_succ_cons, List.drop_zero, List.range', Blk.ren, ren, ren1, List.map_cons, List.map_nil, List.cons_append, List.nil_append, List.append_nil, List.length_cons, List.length_nil, ev0, evA, evB, evP, fl, gp, tab, simprocAttr, reduceCtorEq, reduceIte]
  refine fin_run ?_ (hK _ ?_) <;> clear hK <;> clear K
  · (first | exact trivial | omega | (simp only [In64] at *; omega) | (simp [In64] at *; omega) | (simp_all; done) | skip)
  simp only [Tryd.results78, PostG, endG, rvsA, rvA, mkTup, ev0, evA, evB, evP, fl, gp, tab, simprocAttr, reduceCtorEq, reduceIte]
  all_goals (exact ⟨[0, 1, 2, 3, 9, 5, 6, 7, 8], rfl, rfl, by simp only [leq, leA, ev0, evA, evB, evP, fl, gp, tab, simprocAttr, reduceCtorEq, reduceIte] <;> first | trivial | trace_state⟩)

def fA (n : Nat) : PV → Bool
  | .list l => decide (onto1 (l.map pvi) n)
  | _ => false
def oA (n : Nat) (v : List Int) : Prop := v.length = n ∧ ∀ k, k < n → ∃ y : Nat, y < n ∧ v.getD k 0 = ((y : Nat) : Int)
theorem fA_il (n : Nat) (v : List Int) : fA n (.list (il v)) = decide (onto1 v n) := by
  show decide (onto1 ((il v).map pvi) n) = _
  rw [pvi_il]
theorem fA_ll (n : Nat) (W : List (List Int)) : (pls W).filter (fA n) = ll (W.filter fun v => decide (onto1 v n)) := by
  unfold pls ll
  rw [List.filter_map]
  congr 1
  exact List.filter_congr fun v _ => fA_il n v

set_option maxHeartbeats 8000000 in
set_option maxRecDepth 20000 in
theorem autos_c (h : GT n m n e) (hn : n ≤ 24) (hm : m.length ≤ 1000000000000000) (W X : List (List Int)) (hW : W = hsq n (op m n) e n (op m n) e (gl n (op m n) e n) (gl n (op m n) e n) []) (hX : X = W.filter fun v => decide (onto1 v n)) (hne : X ≠ [])
    (ys : List (List Int)) (hperm : X.Perm ys) (hs : ys.Pairwise fun v w => cmpL v w < 0) :
    FnC Tryd.prog 13 [gp n m] (.tup [if X.length ≤ 1000 then .list (ll ys) else .list [], fl (if X.length ≤ 1000 then 0 else 9, 0)]) := by
  have hgf := gf_of h
  have hb := check_c n m hm
  rw [hgf] at hb
  have hyl := hperm.length_eq
  have htk : List.take X.length (ll ys) = ll ys := List.take_of_length_le (by rw [ll_length]; omega)
  have hpX := fA_ll n W
  rw [← hX] at hpX
  have hlX := ll_length X
  obtain ⟨j, b, hf, hj1, hj2⟩ : ∃ j b, foldS (prA (fA n) (oA n)) [] (pls W) = (j, b) ∧ (X.length ≤ 1000 → b = true ∧ j = ll X) ∧ (¬ X.length ≤ 1000 → b = false ∧ ¬ j.length ≤ 1000) := by
    have e1 : ([] ++ (pls W).filter (fA n)) = ll X := by rw [List.nil_append, hpX]
    by_cases hw : X.length ≤ 1000
    · have := foldA (fA n) (oA n) (pls W) [] (by simp) (by rw [e1]; omega)
      rw [e1] at this
      exact ⟨_, _, this, fun _ => ⟨rfl, rfl⟩, fun h => absurd hw h⟩
    · obtain ⟨j, h1, h2⟩ := foldA_no (fA n) (oA n) (pls W) [] (by simp) (by rw [e1]; omega)
      exact ⟨j, false, h1, fun h => absurd h hw, fun _ => ⟨rfl, h2⟩⟩
  refine fnc_ofR tab_ok Tryd.func13 rfl (by kernel_rfl) (by rw [Tryd.ntmps13]; exact Nat.le_add_left 1 _) ?_; rw [Tryd.ntmps13]
  refine hr_seqH ?_
  refine hk_region fun K hK => runs_eval tab_ok ?_
  simp only [ev0, evA, evB, evP, fl, gp, tab, simprocAttr, reduceCtorEq, reduceIte]
  refine fin_run ?_ (hK _ ?_) <;> clear hK <;> clear K
  · (first | exact trivial | omega | (simp only [In64] at *; omega) | (simp [In64] at *; omega) | (simp_all; done) | skip)
  refine qa (hr_seqH (qm ?_))
  refine hk_region fun K hK => runs_eval tab_ok ?_
  simp only [ev0, evA, evB, evP, fl, gp, tab, simprocAttr, reduceCtorEq, reduceIte]
  refine fin_stop trivial (runs_call (hb) rfl rfl rfl (by simp only [dstOk, Nat.reduceLT]) (by repeat (first | exact trivial | constructor)) (runs_eval tab_ok ?_))
  simp only [ev0, evA, evB, evP, fl, gp, tab, simprocAttr, reduceCtorEq, reduceIte]
  refine fin_run ?_ (hK _ ?_) <;> clear hK <;> clear K
  · (first | exact trivial | omega | (simp only [In64] at *; omega) | (simp [In64] at *; omega) | (simp_all; done) | skip)
  refine qa (qm ?_)
  refine hk_region fun K hK => runs_eval tab_ok ?_
  simp only [ev0, evA, evB, evP, fl, gp, tab, simprocAttr, reduceCtorEq, reduceIte]
  refine fin_run ?_ (hK _ ?_) <;> clear hK <;> clear K
  · (first | exact trivial | omega | (simp only [In64] at *; omega) | (simp [In64] at *; omega) | (simp_all; done) | skip)
  refine qa ?_
  refine hk_cond rfl (fun hC1 => ?_) (fun hC1 => ?_)
  · (try simp only [nhs] at hC1)
    simp at hC1
  · (try simp only [nhs] at hC1)
    refine qh (qa (hr_seqH (qm ?_)))
    refine hk_region fun K hK => runs_eval tab_ok ?_
    simp only [ev0, evA, evB, evP, fl, gp, tab, simprocAttr, reduceCtorEq, reduceIte]
    refine fin_run ?_ (hK _ ?_) <;> clear hK <;> clear K
    · (first | exact trivial | omega | (simp only [In64] at *; omega) | (simp [In64] at *; omega) | (simp_all; done) | skip)
    refine qa ?_
    refine hk_cond rfl (fun hC2 => ?_) (fun hC2 => ?_)
    · (try simp only [nhs] at hC2)
      omega
    · (try simp only [nhs] at hC2)
      refine qh (qa (hr_seqH ?_))
      refine hk_region fun K hK => runs_eval tab_ok ?_
      simp only [ev0, evA, evB, evP, fl, gp, tab, simprocAttr, reduceCtorEq, reduceIte]
      refine fin_run ?_ (hK _ ?_) <;> clear hK <;> clear K
      · (first | exact trivial | omega | (simp only [In64] at *; omega) | (simp [In64] at *; omega) | (simp_all; done) | skip)
      refine qa (hr_seq (hr_seqH ?_))
      refine hk_freeze 0 rfl rfl ?_
      refine hk_own0c 4 0 rfl rfl ?_
      simp only [hset, List.cons_append, List.nil_append, List.set_cons_zero, List.length_cons, List.length_nil, Nat.reduceAdd, Nat.zero_add]
      refine hk_pure 1 rfl (Nat.zero_le _) ?_
      refine hk_region fun K hK => runs_eval tab_ok ?_
      simp only [ev0, evA, evB, evP, fl, gp, tab, simprocAttr, reduceCtorEq, reduceIte]
      refine fin_run ?_ (hK _ ?_) <;> clear hK <;> clear K
      · (first | exact trivial | omega | (simp only [In64] at *; omega) | (simp [In64] at *; omega) | (simp_all; done) | skip)
      refine qa (hr_block ?_)
      refine hr_cl 20 rfl ?_
      refine hr_range (gs := 20) (pp := 21) (κ := 3) (q := 4) (n := 49) (sl := [(1, .p (.ptr [.int .i64 n, .list (il m)])), (2, .ptr 0 0), (3, .ptr 1 0), (5, .ptr 2 0)]) (Hs0 := HU (prA (fA n) (oA n)) []) (Hf := HU (prA (fA n) (oA n)) j) (b := b) (gf := 78) (cap := [.p (.ptr [.int .i64 n, .list (il m)])]) (rv := .p (.tup [])) [1, 2, 4, 6, 5] rfl rfl
        (fun r0 => by simp only [HU, prA]; simp only [leq, leA, ev0, evA, evB, evP, fl, gp, tab, simprocAttr, reduceCtorEq, reduceIte] <;> first | trivial | trace_state) rfl (by decide) ⟨fun _ => rfl, fun _ _ => rfl⟩ ⟨fun _ => rfl, fun _ _ => rfl⟩ (fun r0 => rfl) rfl rfl (fun r0 r1 => by simp only [HU, prA]; exact (by first | rfl | (simp [scQ, scA, sc1, mpKeep, notAnc, Blk.spc, opl_sc]; done)))
        (fun rec hr => autos1_c (prA (fA n) (oA n)) h _ rfl (by rw [hr.params]; rfl) (fun i x hi hx => yld_of hr (by decide) rfl (by decide) (sl1 := (6, .p x) :: [(1, .p (.ptr [.int .i64 n, .list (il m)])), (2, .ptr 0 0), (3, .ptr 1 0), (5, .ptr 2 0)]) (H0 := HU (prA (fA n) (oA n)) i) (H1 := HU (prA (fA n) (oA n)) (Prot.nx (prA (fA n) (oA n)) i x)) ⟨fun _ => rfl, fun _ _ => rfl⟩ ⟨fun _ => rfl, fun _ _ => rfl⟩ (fun r0 => ?_) (fun r0 => ?_)) (fun φ hφ => ⟨_, rfl, tbm_len n φ, fun k hk => ⟨φ k, hφ.lt k hk, tbm_get hk⟩⟩) rfl [] ⟨by decide, rfl⟩ (hW ▸ hf)) ?_ ?_
      · simp only [HU, prA, ancs, List.cons_append, List.nil_append, Nat.reduceAdd, Nat.zero_add]
        refine hk_region fun K hK => runs_eval tab_ok ?_
        simp only [ev0, evA, evB, evP, fl, gp, tab, simprocAttr, reduceCtorEq, reduceIte]
        refine fin_run trivial (hK _ ?_) <;> clear hK <;> clear K
        refine ⟨rfl, [0, 1, 2, 3, 4, 5, 6, 7, 8], ?_⟩
        simp only [leq, leA, ev0, evA, evB, evP, fl, gp, tab, simprocAttr, reduceCtorEq, reduceIte] <;> first | trivial | trace_state
      · obtain ⟨v, rfl, hvl, hvn⟩ := hx
        obtain ⟨hi1, hi2⟩ := hi
        have hio := opl_ok hi2
        simp only [HU, prA, ancs, List.cons_append, List.nil_append, Nat.reduceAdd, Nat.zero_add]
        simp only [fA_il]
        have ei : (if i.length ≤ 1000 then (0 : Int) else 9) = 0 := if_pos hi1
        rw [ei]
        refine ql (qm ?_)
        refine hk_region fun K hK => runs_eval tab_ok ?_
        simp only [ev0, evA, evB, evP, fl, gp, tab, simprocAttr, reduceCtorEq, reduceIte, makeSliceA.eq_def, hbl_new]
        refine fin_run ?_ (hK _ ?_) <;> clear hK <;> clear K
        · omega
        refine qa (qm (qm ?_))
        refine hk_region fun K hK => runs_eval tab_ok ?_
        simp only [ev0, evA, evB, evP, fl, gp, tab, simprocAttr, reduceCtorEq, reduceIte, il_length, hvl]
        refine fin_run trivial (hK _ ?_) <;> clear hK <;> clear K
        refine qa (ql ?_)
        refine hk_loop (ι := Nat) (fun k => ⟨49, [(2, .ptr 0 0), (3, .ptr 1 0), (5, .ptr 2 0), (6, .p (.list (il v))), (7, .sl 9 0 n), (25, .p (.list (il v))), (26, .p (.int .i64 n)), (27, .p (.int .i64 k))], [.own [.p .nil], .own [.p (.int .i64 0), .p (.int .i64 0)], .own [.sl 4 0 i.length], .lp r0, .own (opl i), .anc 0 0, .anc 1 1, .anc 2 2, .anc 3 3, .own (opl (hbl n (hits v k)))]⟩) (fun k => k ≤ n) (fun k => n - k) 0 (Nat.zero_le _) [0, 1, 2, 3, 4, 5, 6, 7, 8, 9] (by simp only [show hits v 0 = fun _ => false from funext (hits_zero _)]; simp only [leq, leA, ev0, evA, evB, evP, fl, gp, tab, simprocAttr, reduceCtorEq, reduceIte] <;> trivial) fun k hk => ?_
        refine qm ?_
        refine hk_region fun K hK => runs_eval tab_ok ?_
        simp only [ev0, evA, evB, evP, fl, gp, tab, simprocAttr, reduceCtorEq, reduceIte]
        refine fin_run trivial (hK _ ?_) <;> clear hK <;> clear K
        refine qa (qm ?_)
        refine hk_cond rfl (fun hC3 => ?_) (fun hC3 => ?_)
        · (try simp only [nhs] at hC3)
          have hkl : k < n := by omega
          obtain ⟨y, lv, ev⟩ := hvn k hkl
          refine qh (qa (qm (ql (qm ?_))))
          refine hk_region fun K hK => runs_eval tab_ok ?_
          simp only [ev0, evA, evB, evP, fl, gp, tab, simprocAttr, reduceCtorEq, reduceIte, il_get (show k < v.length by omega), ev]
          refine fin_run ?_ (hK _ ?_) <;> clear hK <;> clear K
          · (first | exact trivial | omega | (simp only [In64] at *; omega) | (simp [In64] at *; omega) | (simp_all; done) | skip)
          refine qa ?_
          refine hk_region fun K hK => runs_eval tab_ok ?_
          simp only [ev0, evA, evB, evP, fl, gp, tab, simprocAttr, reduceCtorEq, reduceIte]
          refine fin_run ?_ (hK _ ?_) <;> clear hK <;> clear K
          · rw [hbl_len]; omega
          refine qd (qa ?_)
          rw [hbl_set]
          refine hk_region fun K hK => runs_eval tab_ok ?_
          simp only [ev0, evA, evB, evP, fl, gp, tab, simprocAttr, reduceCtorEq, reduceIte]
          refine fin_run ?_ (hK _ ?_) <;> clear hK <;> clear K
          · (first | exact trivial | omega | (simp only [In64] at *; omega) | (simp [In64] at *; omega) | (simp_all; done) | skip)
          refine qa ?_
          refine ⟨k + 1, [0, 1, 2, 3, 4, 5, 6, 7, 8, 9], by omega, by omega, ?_⟩
          rw [hbl_congr (fun i' _ => hits_succ (l := v) (by omega) ev i')]
          simp only [leq, leA, ev0, evA, evB, evP, fl, gp, tab, simprocAttr, reduceCtorEq, reduceIte] <;> first | trivial | omega
        · (try simp only [nhs] at hC3)
          have hkn : k = n := by omega
          rw [hkn]
          have hon : decide (ixb n (hits v n) ≥ 0) = decide (¬ onto1 v n) := decide_eq_decide.2 (by
            rw [ixb_iff]
            unfold hits onto1
            rw [List.take_of_length_le (by omega)]
            constructor
            · rintro ⟨z, v1, v2⟩ ho
              exact (of_decide_eq_false v2) (ho.1 z v1)
            · intro ho
              by_cases hh : ∃ z, z < n ∧ ¬ ((z : Nat) : Int) ∈ v
              · obtain ⟨z, v1, v2⟩ := hh
                exact ⟨z, v1, decide_eq_false v2⟩
              · exact absurd ⟨fun z hz => Classical.byContradiction fun h' => hh ⟨z, hz, h'⟩, hvl⟩ ho)
          refine hk_sealp 7 9 (hbl_all n (hits v n)) (by show AV.sl 9 0 n = AV.sl 9 0 _; rw [hbl_len]) rfl ?_
          refine qj (qc (qc (qf (qa (qm (qm ?_))))))
          refine hk_region fun K hK => runs_eval tab_ok ?_
          simp only [ev0, evA, evB, evP, fl, gp, tab, simprocAttr, reduceCtorEq, reduceIte]
          refine fin_stop trivial (runs_call (containsB_c n (hits v n) (by omega)) rfl rfl rfl (by simp only [dstOk, Nat.reduceLT]) (by repeat (first | exact trivial | constructor)) (runs_eval tab_ok ?_))
          simp only [ev0, evA, evB, evP, fl, gp, tab, simprocAttr, reduceCtorEq, reduceIte, hon]
          refine fin_run trivial (hK _ ?_) <;> clear hK <;> clear K
          refine qa ?_
          refine hk_cond rfl (fun hC4 => ?_) (fun hC4 => ?_)
          · (try simp only [nhs] at hC4)
            have ho : ¬ onto1 v n := by simpa using hC4
            simp only [ho, decide_false, Bool.not_false, Bool.true_or, if_true, Bool.false_eq_true, if_false]
            refine qj (qc (qf ?_))
            refine ⟨rfl, [0, 1, 2, 3, 4, 5, 6, 7, 8], ?_⟩
            rw [ei]
            simp only [leq, leA, ev0, evA, evB, evP, fl, gp, tab, simprocAttr, reduceCtorEq, reduceIte] <;> first | trivial | (simp; done) | trace_state
          · (try simp only [nhs] at hC4)
            have ho : onto1 v n := by simpa using hC4
            simp only [ho, decide_true, Bool.not_true, Bool.false_or, if_true]
            refine qh (qa (qm ?_))
            refine hk_region fun K hK => runs_eval tab_ok ?_
            simp only [ev0, evA, evB, evP, fl, gp, tab, simprocAttr, reduceCtorEq, reduceIte]
            refine fin_run ?_ (hK _ ?_) <;> clear hK <;> clear K
            · exact ⟨hio, Nat.le_refl _, by omega, by omega⟩
            refine qa (qm ?_)
            refine hk_region fun K hK => runs_eval tab_ok ?_
            simp only [ev0, evA, evB, evP, fl, gp, tab, simprocAttr, reduceCtorEq, reduceIte]
            refine fin_run ?_ (hK _ ?_) <;> clear hK <;> clear K
            · (first | exact trivial | omega | (simp only [In64] at *; omega) | (simp [In64] at *; omega) | (simp_all; done) | skip)
            refine qa ?_
            refine hk_cond rfl (fun hC5 => ?_) (fun hC5 => ?_)
            · (try simp only [nhs] at hC5)
              refine qm ?_
              refine hk_region fun K hK => runs_eval tab_ok ?_
              simp only [ev0, evA, evB, evP, fl, gp, tab, simprocAttr, reduceCtorEq, reduceIte]
              refine fin_stop trivial (runs_call (homFlt_c 9 0) rfl rfl rfl (by simp only [dstOk, Nat.reduceLT]) (by repeat (first | exact trivial | constructor)) (runs_eval tab_ok ?_))
              simp only [ev0, evA, evB, evP, fl, gp, tab, simprocAttr, reduceCtorEq, reduceIte]
              refine fin_run ?_ (hK _ ?_) <;> clear hK <;> clear K
              · (first | exact trivial | omega | (simp only [In64] at *; omega) | (simp [In64] at *; omega) | (simp_all; done) | skip)
              refine qa (qk (qe ?_))
              have e9 : ¬ (i ++ [PV.list (il v)]).length ≤ 1000 := by simp; omega
              refine ⟨by rw [if_neg (by simp; omega)], [0, 1, 2, 3, 10, 5, 6, 7, 8], ?_⟩
              rw [if_neg e9]
              simp only [leq, leA, ev0, evA, evB, evP, fl, gp, tab, simprocAttr, reduceCtorEq, reduceIte] <;> first | trivial | (simp; done) | trace_state
            · (try simp only [nhs] at hC5)
              refine qh (qd ?_)
              have e9 : (i ++ [PV.list (il v)]).length ≤ 1000 := by simp; omega
              refine ⟨by rw [if_pos (by simp; omega)], [0, 1, 2, 3, 10, 5, 6, 7, 8], ?_⟩
              rw [if_pos e9]
              simp only [leq, leA, ev0, evA, evB, evP, fl, gp, tab, simprocAttr, reduceCtorEq, reduceIte] <;> first | trivial | (simp; done) | trace_state
      · intro hbt
        have hw : X.length ≤ 1000 := Classical.byContradiction fun hw => by rw [(hj2 hw).1] at hbt; cases hbt
        obtain ⟨_, hjW⟩ := hj1 hw
        subst hjW
        simp only [hw, if_true]
        simp only [HU, prA, ancs, List.cons_append, List.nil_append, Nat.reduceAdd, Nat.zero_add]
        refine qd (qa (hr_seqH ?_))
        refine hk_region fun K hK => runs_eval tab_ok ?_
        simp only [ev0, evA, evB, evP, fl, gp, tab, simprocAttr, reduceCtorEq, reduceIte]
        refine fin_stop ?_ (runs_callM [4] (sortL_c hne (by omega) (fun v hv => by
          rw [hX] at hv
          have hv := (List.mem_filter.1 hv).1
          rw [hW] at hv
          obtain ⟨φ, _, rfl⟩ := hsq_mem _ _ v hv
          rw [tbm_len]; omega) hperm hs) rfl rfl ?_ (by simp only [leA, ev0, evA, evB, evP, fl, gp, tab, simprocAttr, reduceCtorEq, reduceIte]; first | trivial | (simp only [ll_takeL]; first | trivial | (repeat constructor; done)) | (repeat constructor)) (by decide) (by first | rfl | (simp only [List.length_cons, List.length_nil, List.length_append]; decide)) (by first | rfl | (simp only [scM, opl_sc, List.all_cons, List.all_nil, List.length_cons, List.length_nil]; first | rfl | decide) | (simp [scM, scA, sc1, mpKeep, notAnc]; done)) (by simp only [dstOk, Nat.reduceLT]) (runs_eval tab_ok ?_))
        · (first | exact trivial | omega | (simp only [In64] at *; omega) | (simp [In64] at *; omega) | (simp_all; done) | skip)
        · (simp only [argsM, argM1, peekG, peekS, scA, sc1, ren, ren1, List.map_cons, List.map_nil, List.append_nil, List.cons_append, List.nil_append, enA, ev0, evA, evB, evP, fl, gp, tab, simprocAttr, reduceCtorEq, reduceIte]; try trivial)
        simp only [putM, hset, List.range', Blk.ren, ren, ren1, List.map_cons, List.map_nil, List.cons_append, List.nil_append, List.append_nil, List.length_cons, List.length_nil, ev0, evA, evB, evP, fl, gp, tab, simprocAttr, reduceCtorEq, reduceIte]
        refine fin_run ?_ (hK _ ?_) <;> clear hK <;> clear K
        · (first | exact trivial | omega | (simp only [In64] at *; omega) | (simp [In64] at *; omega) | (simp_all; done) | skip)
        refine qa (hr_seqH ?_)
        refine hk_region fun K hK => runs_eval tab_ok ?_
        simp only [ev0, evA, evB, evP, fl, gp, tab, simprocAttr, reduceCtorEq, reduceIte]
        refine fin_run ?_ (hK _ ?_) <;> clear hK <;> clear K
        · (first | exact trivial | omega | (simp only [In64] at *; omega) | (simp [In64] at *; omega) | (simp_all; done) | skip)
        refine qa (hr_of_hk (qk ?_))
        simp only [Tryd.results13, enA, ev0, evA, evB, evP, fl, gp, tab, simprocAttr, reduceCtorEq, reduceIte]
        rw [htk]
        exact ⟨⟨by omega, ll_all _⟩, rfl⟩
      · intro hbf
        have hw : ¬ X.length ≤ 1000 := fun hw => by rw [(hj1 hw).1] at hbf; cases hbf
        have hj3 := (hj2 hw).2
        simp only [hw, if_false]
        simp only [HU, prA, ancs, List.cons_append, List.nil_append, Nat.reduceAdd, Nat.zero_add, hj3, if_false]
        refine qe (qb ?_)
        simp only [Tryd.results13, enA, ev0, evA, evB, evP, fl, gp, tab, simprocAttr, reduceCtorEq, reduceIte]
        all_goals (trace_state)
end
end Go.Proofs.YtboadfahlflmhaaDoor

/-
  Walks: inner automorphisms. Conditions: none.
-/
set_option linter.all false
namespace Go.Proofs.YtboadfahlflmhaaDoor
open Go.Pv

theorem sortLw_c {xs ys : List (List Int)} (hne : xs ≠ []) (hl : xs.length ≤ 1000000) (hr : ∀ v ∈ xs, v.length ≤ 1000000) (hperm : xs.Perm ys) (hs : ys.Pairwise fun v w => ¬ cmpL w v < 0) :
    FnM Tryd.prog 81 [.sl 0 0 (ll xs).length, .p (.fn 82 [])] [.own (opl (ll xs))] (.p (.tup [])) [.own (opl (ll ys))] :=
  sort_m Go.Proofs.Tryd.sortL (ll xs) (ll ys) cfL (fun h => hne (by cases xs with
      | nil => rfl
      | cons a r => cases h)) (fun x hx => by obtain ⟨v, _, rfl⟩ := mem_ll hx; rfl)
    (fun x hx => by obtain ⟨v, _, rfl⟩ := mem_ll hx; rw [cfL_il, cmpL_self]; decide)
    (fun x hx y hy z hz h1 h2 => by
      obtain ⟨u, _, rfl⟩ := mem_ll hx; obtain ⟨v, _, rfl⟩ := mem_ll hy; obtain ⟨w, _, rfl⟩ := mem_ll hz
      rw [cfL_il] at *; exact cmpL_trans _ _ _ h1 h2)
    (fun x hx y hy z hz h1 h2 => by
      obtain ⟨u, _, rfl⟩ := mem_ll hx; obtain ⟨v, _, rfl⟩ := mem_ll hy; obtain ⟨w, _, rfl⟩ := mem_ll hz
      rw [cfL_il] at *; exact cmpL_ntrans _ _ _ h1 h2)
    (fun x hx y hy h1 h2 => by
      obtain ⟨u, _, rfl⟩ := mem_ll hx; obtain ⟨v, _, rfl⟩ := mem_ll hy
      rw [cfL_il] at *; rw [cmpL_tot _ _ h1 h2])
    (fun x hx y hy => by
      obtain ⟨u, hu, rfl⟩ := mem_ll hx; obtain ⟨v, hv, rfl⟩ := mem_ll hy
      rw [cfL_il]; have h1 := hr u hu; have h2 := hr v hv; exact compareL_c u v (by omega) (by omega))
    (hperm.map _) (by
      unfold ll
      rw [List.pairwise_map]
      exact hs.imp fun {x y} hxy h2 => hxy (by rwa [cfL_il] at h2)) (by rw [ll_length]; omega)

/-- Rows in order. -/
def srtL (xs : List (List Int)) : List (List Int) := xs.mergeSort fun v w => decide (¬ cmpL w v < 0)
theorem srtL_perm (xs : List (List Int)) : xs.Perm (srtL xs) := (List.mergeSort_perm xs _).symm
theorem srtL_sorted (xs : List (List Int)) : (srtL xs).Pairwise fun v w => ¬ cmpL w v < 0 := by
  have := List.pairwise_mergeSort (le := fun v w : List Int => decide (¬ cmpL w v < 0)) (fun a b c h1 h2 => by
    simp only [decide_eq_true_eq] at *
    exact cmpL_ntrans _ _ _ h2 h1) (fun a b => by
    simp only [Bool.or_eq_true, decide_eq_true_eq]
    by_cases h : cmpL b a < 0
    · right
      intro h2
      have := cmpL_trans _ _ _ h h2
      rw [cmpL_self] at this; exact absurd this (by decide)
    · exact .inl h) xs
  exact this.imp fun h => by simpa using h
theorem srtL_strict {xs : List (List Int)} (h : xs.Nodup) : (srtL xs).Pairwise fun v w => cmpL v w < 0 := by
  have h1 := srtL_sorted xs
  have h2 : (srtL xs).Nodup := (srtL_perm xs).nodup_iff.1 h
  exact (h1.and h2).imp fun {v w} ⟨a, b⟩ => Classical.byContradiction fun hc => b (cmpL_tot _ _ hc a)

section
variable {n e : Nat} {m : List Int}
/-- What a thing does to all. -/
def inr (n : Nat) (f : Nat → Nat → Nat) (e b : Nat) : List Int := tbm n fun x => cjr n f e x b
def inl' (n : Nat) (f : Nat → Nat → Nat) (e k : Nat) : List (List Int) := (List.range k).map (inr n f e)
theorem inl_succ (f : Nat → Nat → Nat) (k : Nat) : inl' n f e (k + 1) = inl' n f e k ++ [inr n f e k] := by
  unfold inl'; rw [List.range_succ, List.map_append]; rfl
theorem inl_len (f : Nat → Nat → Nat) (k : Nat) : (inl' n f e k).length = k := by simp [inl']
theorem tbm_succ (φ : Nat → Nat) (k : Nat) : tbm (k + 1) φ = tbm k φ ++ [((φ k : Nat) : Int)] := by
  unfold tbm; rw [List.range_succ, List.map_append]; rfl

set_option maxHeartbeats 4000000 in
theorem inner_c (h : GT n m n e) (hm : m.length ≤ 1000000000000000) (ys : List (List Int)) (hperm : (inl' n (op m n) e n).Perm ys) (hs : ys.Pairwise fun v w => ¬ cmpL w v < 0) :
    FnC Tryd.prog 15 [gp n m] (.tup [.list (ll (cps [] ys)), fl (0, 0)]) := by
  have hgf := gf_of h
  have hb := check_c n m hm
  rw [hgf] at hb
  have hn := h.2.1.big
  have hpos : 0 < n := h.2.1.pos
  refine fnc_of tab_ok Tryd.func15 rfl (by kernel_rfl) (by rw [Tryd.ntmps15]; exact Nat.le_add_left 1 _) ?_; rw [Tryd.ntmps15]
  refine qm ?_
  refine hk_region fun K hK => runs_eval tab_ok ?_
  simp only [ev0, evA, evB, evP, fl, gp, tab, simprocAttr, reduceCtorEq, reduceIte]
  refine fin_run ?_ (hK _ ?_) <;> clear hK <;> clear K
  · (first | exact trivial | omega | (simp only [In64] at *; omega) | (simp [In64] at *; omega) | (simp_all; done) | skip)
  refine qa (qm (qm ?_))
  refine hk_region fun K hK => runs_eval tab_ok ?_
  simp only [ev0, evA, evB, evP, fl, gp, tab, simprocAttr, reduceCtorEq, reduceIte]
  refine fin_stop trivial (runs_call (hb) rfl rfl rfl (by simp only [dstOk, Nat.reduceLT]) (by repeat (first | exact trivial | constructor)) (runs_eval tab_ok ?_))
  simp only [ev0, evA, evB, evP, fl, gp, tab, simprocAttr, reduceCtorEq, reduceIte]
  refine fin_run ?_ (hK _ ?_) <;> clear hK <;> clear K
  · (first | exact trivial | omega | (simp only [In64] at *; omega) | (simp [In64] at *; omega) | (simp_all; done) | skip)
  refine qa (qm ?_)
  refine hk_region fun K hK => runs_eval tab_ok ?_
  simp only [ev0, evA, evB, evP, fl, gp, tab, simprocAttr, reduceCtorEq, reduceIte]
  refine fin_run ?_ (hK _ ?_) <;> clear hK <;> clear K
  · (first | exact trivial | omega | (simp only [In64] at *; omega) | (simp [In64] at *; omega) | (simp_all; done) | skip)
  refine qa ?_
  refine hk_cond rfl (fun hC1 => ?_) (fun hC1 => ?_)
  · (try simp only [nhs] at hC1)
    simp at hC1
  · (try simp only [nhs] at hC1)
    refine qh (qa (qm ?_))
    refine hk_region fun K hK => runs_eval tab_ok ?_
    simp only [ev0, evA, evB, evP, fl, gp, tab, simprocAttr, reduceCtorEq, reduceIte]
    refine fin_run trivial (hK _ ?_) <;> clear hK <;> clear K
    refine qa (qm (qm ?_))
    refine hk_own0 5 rfl ?_
    refine hk_region fun K hK => runs_eval tab_ok ?_
    simp only [ev0, evA, evB, evP, fl, gp, tab, simprocAttr, reduceCtorEq, reduceIte]
    refine fin_run ?_ (hK _ ?_) <;> clear hK <;> clear K
    · (first | exact trivial | omega | (simp only [In64] at *; omega) | (simp [In64] at *; omega) | (simp_all; done) | skip)
    refine qa (ql ?_)
    refine hk_loop (ι := Nat) (fun k => ⟨43, [(1, .ptr 0 0), (3, .ptr 1 0), (5, .sl 2 0 (inl' n (op m n) e k).length), (16, .p (.int .i64 n)), (17, .p (.int .i64 k))], [.own [.p (.int .i64 n), .p (.list (il m))], .own [.p (.int .i64 0), .p (.int .i64 0)], .own (opl (ll (inl' n (op m n) e k)))]⟩) (fun k => k ≤ n) (fun k => n - k) 0 (Nat.zero_le _) [0, 1, 3] (by simp only [leq, leA, ev0, evA, evB, evP, fl, gp, tab, simprocAttr, reduceCtorEq, reduceIte] <;> first | trivial | exact ⟨rfl, rfl⟩ | trace_state) fun k hk => ?_
    have hil := inl_len (n := n) (e := e) (op m n) k
    have hsu := inl_succ (n := n) (e := e) (op m n) k
    refine qm ?_
    refine hk_region fun K hK => runs_eval tab_ok ?_
    simp only [ev0, evA, evB, evP, fl, gp, tab, simprocAttr, reduceCtorEq, reduceIte]
    refine fin_run trivial (hK _ ?_) <;> clear hK <;> clear K
    refine qa (qm ?_)
    refine hk_cond rfl (fun hC2 => ?_) (fun hC2 => ?_)
    · (try simp only [nhs] at hC2)
      have hkl : k < n := by omega
      refine qh (qa (qm (ql (qm ?_))))
      refine hk_region fun K hK => runs_eval tab_ok ?_
      simp only [ev0, evA, evB, evP, fl, gp, tab, simprocAttr, reduceCtorEq, reduceIte]
      refine fin_run trivial (hK _ ?_) <;> clear hK <;> clear K
      refine qa (qm ?_)
      refine hk_region fun K hK => runs_eval tab_ok ?_
      simp only [ev0, evA, evB, evP, fl, gp, tab, simprocAttr, reduceCtorEq, reduceIte]
      refine fin_run trivial (hK _ ?_) <;> clear hK <;> clear K
      refine qa (qm (qm ?_))
      refine hk_own0 7 rfl ?_
      refine hk_region fun K hK => runs_eval tab_ok ?_
      simp only [ev0, evA, evB, evP, fl, gp, tab, simprocAttr, reduceCtorEq, reduceIte]
      refine fin_run ?_ (hK _ ?_) <;> clear hK <;> clear K
      · (first | exact trivial | omega | (simp only [In64] at *; omega) | (simp [In64] at *; omega) | (simp_all; done) | skip)
      refine qa (ql ?_)
      refine hk_loop (ι := Nat) (fun x => ⟨43, [(1, .ptr 0 0), (3, .ptr 1 0), (5, .sl 2 0 (inl' n (op m n) e k).length), (6, .p (.int .i64 k)), (7, .sl 3 0 (tbm x fun x => cjr n (op m n) e x k).length), (16, .p (.int .i64 n)), (17, .p (.int .i64 k)), (21, .p (.int .i64 n)), (22, .p (.int .i64 x))], [.own [.p (.int .i64 n), .p (.list (il m))], .own [.p (.int .i64 0), .p (.int .i64 0)], .own (opl (ll (inl' n (op m n) e k))), .own (ol (tbm x fun x => cjr n (op m n) e x k))]⟩) (fun x => x ≤ n) (fun x => n - x) 0 (Nat.zero_le _) [0, 1, 2, 3] (by simp only [leq, leA, ev0, evA, evB, evP, fl, gp, tab, simprocAttr, reduceCtorEq, reduceIte, ll_takeL] <;> first | trivial | exact ⟨rfl, rfl⟩ | trace_state) fun x hx => ?_
      have htl := tbm_len x fun x => cjr n (op m n) e x k
      have htk : List.take x (tbm x fun x => cjr n (op m n) e x k) = tbm x fun x => cjr n (op m n) e x k := List.take_of_length_le (by omega)
      refine qm ?_
      refine hk_region fun K hK => runs_eval tab_ok ?_
      simp only [ev0, evA, evB, evP, fl, gp, tab, simprocAttr, reduceCtorEq, reduceIte]
      refine fin_run trivial (hK _ ?_) <;> clear hK <;> clear K
      refine qa (qm ?_)
      refine hk_cond rfl (fun hC3 => ?_) (fun hC3 => ?_)
      · (try simp only [nhs] at hC3)
        have hxl : x < n := by omega
        refine qh (qa (qm (ql (qm ?_))))
        refine hk_region fun K hK => runs_eval tab_ok ?_
        simp only [ev0, evA, evB, evP, fl, gp, tab, simprocAttr, reduceCtorEq, reduceIte]
        refine fin_run trivial (hK _ ?_) <;> clear hK <;> clear K
        refine qa ?_
        refine hk_region fun K hK => runs_eval tab_ok ?_
        simp only [ev0, evA, evB, evP, fl, gp, tab, simprocAttr, reduceCtorEq, reduceIte, List.take_length]
        refine fin_stop trivial (runs_call (conj_s h hxl hkl) rfl rfl rfl (by simp only [dstOk, Nat.reduceLT]) (by repeat (first | exact trivial | constructor)) (runs_eval tab_ok ?_))
        simp only [ev0, evA, evB, evP, fl, gp, tab, simprocAttr, reduceCtorEq, reduceIte, List.take_length]
        refine fin_run ?_ (hK _ ?_) <;> clear hK <;> clear K
        · (first | exact trivial | omega | (simp only [In64] at *; omega) | (simp [In64] at *; omega) | (simp_all; done) | skip)
        refine qd (qa ?_)
        refine hk_region fun K hK => runs_eval tab_ok ?_
        simp only [ev0, evA, evB, evP, fl, gp, tab, simprocAttr, reduceCtorEq, reduceIte]
        refine fin_run ?_ (hK _ ?_) <;> clear hK <;> clear K
        · (first | exact trivial | omega | (simp only [In64] at *; omega) | (simp [In64] at *; omega) | (simp_all; done) | skip)
        refine qa ?_
        refine ⟨x + 1, [0, 1, 2, 4], by omega, by omega, ?_⟩
        rw [tbm_succ]
        simp only [leq, leA, ev0, evA, evB, evP, fl, gp, tab, simprocAttr, reduceCtorEq, reduceIte, ll_takeL] <;> first | trivial | omega | trace_state
      · (try simp only [nhs] at hC3)
        obtain rfl : x = n := by omega
        refine qj (qc (qc (qf (qa ?_))))
        refine hk_seal 7 3 rfl rfl ?_
        refine hk_region fun K hK => runs_eval tab_ok ?_
        simp only [ev0, evA, evB, evP, fl, gp, tab, simprocAttr, reduceCtorEq, reduceIte, ll_takeL, oll_ok, ll_snoc]
        refine fin_run ?_ (hK _ ?_) <;> clear hK <;> clear K
        · (first | exact trivial | omega | (simp only [In64] at *; omega) | (simp [In64] at *; omega) | (simp_all; done) | skip)
        refine qd (qa ?_)
        refine hk_region fun K hK => runs_eval tab_ok ?_
        simp only [ev0, evA, evB, evP, fl, gp, tab, simprocAttr, reduceCtorEq, reduceIte]
        refine fin_run ?_ (hK _ ?_) <;> clear hK <;> clear K
        · (first | exact trivial | omega | (simp only [In64] at *; omega) | (simp [In64] at *; omega) | (simp_all; done) | skip)
        refine qa ?_
        refine ⟨k + 1, [0, 1, 4], by omega, by omega, ?_⟩
        rw [hsu]
        simp only [leq, leA, ev0, evA, evB, evP, fl, gp, tab, simprocAttr, reduceCtorEq, reduceIte, ll_takeL, ll_snoc, ll_takeS] <;> first | trivial | omega | trace_state
    · (try simp only [nhs] at hC2)
      obtain rfl : k = n := by omega
      have hyl := hperm.length_eq
      have hne : inl' k (op m k) e k ≠ [] := fun h => by rw [h] at hil; simp at hil; omega
      have hrw : ∀ v ∈ inl' k (op m k) e k, v.length ≤ 1000000 := fun v hv => by
        obtain ⟨b, _, rfl⟩ := List.mem_map.1 hv
        show (tbm _ _).length ≤ _
        rw [tbm_len]; omega
      refine qj (qc (qc (qf (qa (qm ?_)))))
      refine hk_region fun K hK => runs_eval tab_ok ?_
      simp only [ev0, evA, evB, evP, fl, gp, tab, simprocAttr, reduceCtorEq, reduceIte]
      refine fin_stop ?_ (runs_callM [2] (sortLw_c hne (by rw [hil]; omega) hrw hperm hs) rfl rfl ?_ (by simp only [leA, ev0, evA, evB, evP, fl, gp, tab, simprocAttr, reduceCtorEq, reduceIte]; first | trivial | (simp only [ll_takeL]; first | trivial | (repeat constructor; done)) | (repeat constructor)) (by decide) (by first | rfl | (simp only [List.length_cons, List.length_nil, List.length_append]; decide)) (by first | rfl | (simp only [scM, opl_sc, List.all_cons, List.all_nil, List.length_cons, List.length_nil]; first | rfl | decide) | (simp [scM, scA, sc1, mpKeep, notAnc]; done)) (by simp only [dstOk, Nat.reduceLT]) (runs_eval tab_ok ?_))
      · (first | exact trivial | omega | (simp only [In64] at *; omega) | (simp [In64] at *; omega) | (simp_all; done) | skip)
      · (simp only [argsM, argM1, peekG, peekS, scA, sc1, ren, ren1, List.map_cons, List.map_nil, List.append_nil, List.cons_append, List.nil_append, enA, ev0, evA, evB, evP, fl, gp, tab, simprocAttr, reduceCtorEq, reduceIte]; try trivial)
      simp only [putM, hset, List.range', Blk.ren, ren, ren1, List.map_cons, List.map_nil, List.cons_append, List.nil_append, List.append_nil, List.length_cons, List.length_nil, ev0, evA, evB, evP, fl, gp, tab, simprocAttr, reduceCtorEq, reduceIte]
      refine fin_run trivial (hK _ ?_) <;> clear hK <;> clear K
      refine qa (qm ?_)
      refine hk_region fun K hK => runs_eval tab_ok ?_
      simp only [ev0, evA, evB, evP, fl, gp, tab, simprocAttr, reduceCtorEq, reduceIte]
      refine fin_stop ?_ (runs_callM [2] (compactL_c ys (by omega) (fun v hv => hrw v (hperm.mem_iff.2 hv))) rfl rfl ?_ (by simp only [leA, ev0, evA, evB, evP, fl, gp, tab, simprocAttr, reduceCtorEq, reduceIte]; first | trivial | (simp only [ll_takeL]; first | trivial | (repeat constructor; done)) | (repeat constructor)) (by decide) (by first | rfl | (simp only [List.length_cons, List.length_nil, List.length_append]; decide)) (by first | rfl | (simp only [scM, opl_sc, List.all_cons, List.all_nil, List.length_cons, List.length_nil]; first | rfl | decide) | (simp [scM, scA, sc1, mpKeep, notAnc]; done)) (by simp only [dstOk, Nat.reduceLT]) (runs_eval tab_ok ?_))
      · (first | exact trivial | omega | (simp only [In64] at *; omega) | (simp [In64] at *; omega) | (simp_all; done) | skip)
      · (simp only [argsM, argM1, peekG, peekS, scA, sc1, ren, ren1, List.map_cons, List.map_nil, List.append_nil, List.cons_append, List.nil_append, enA, ev0, evA, evB, evP, fl, gp, tab, simprocAttr, reduceCtorEq, reduceIte]; try trivial)
        rw [hyl]
      simp only [putM, hset, List.range', Blk.ren, ren, ren1, List.map_cons, List.map_nil, List.cons_append, List.nil_append, List.append_nil, List.length_cons, List.length_nil, ev0, evA, evB, evP, fl, gp, tab, simprocAttr, reduceCtorEq, reduceIte]
      refine fin_run ?_ (hK _ ?_) <;> clear hK <;> clear K
      · (first | exact trivial | omega | (simp only [In64] at *; omega) | (simp [In64] at *; omega) | (simp_all; done) | skip)
      refine qa (qk ?_)
      simp only [Tryd.results15, enA, ev0, evA, evB, evP, fl, gp, tab, simprocAttr, reduceCtorEq, reduceIte]
      have htk : List.take (cps [] ys).length (ll (cps [] ys) ++ List.replicate (ys.length - (cps [] ys).length) PV.nil) = ll (cps [] ys) := by
        rw [← ll_length (cps [] ys), List.take_left]
      rw [htk]
      exact ⟨⟨by simp [ll_length], ll_all _⟩, rfl⟩
end
end Go.Proofs.YtboadfahlflmhaaDoor

/-
  All homomorphisms are what the search hands out; the laws of maps have begun. Conditions: none.
-/
set_option linter.all false
namespace Go.Proofs.YtboadfahlflmhaaDoor
open Go.Pv

section
variable {n e N d : Nat} {f g : Nat → Nat → Nat}
theorem Hmo.pw (G : Grp n f e) (K : Grp N g d) {φ : Nat → Nat} (h : Hmo n f N g φ) {a : Nat} (ha : a < n) : ∀ k, φ (pw f e a k) = pw g d (φ a) k
  | 0 => h.one G K
  | k + 1 => by
    show φ (f (Go.Proofs.YtboadfahlflmhaaDoor.pw f e a k) a) = g _ _
    rw [h.mul _ _ (G.pw_lt ha k) ha, Hmo.pw G K h ha k]
theorem Hmo.ord (G : Grp n f e) (K : Grp N g d) {φ : Nat → Nat} (h : Hmo n f N g φ) {a : Nat} (ha : a < n) : ord N g d (φ a) ∣ ord n f e a := by
  rw [← K.pw_eq_one (h.lt a ha), ← h.pw G K ha, G.pw_ord ha, h.one G K]
theorem Hmo.same (G : Grp n f e) (K : Grp N g d) {L : List Nat} (hgen : ∀ a, a < n → Gen n f e (fun x => decide (x ∈ L)) a) {φ ψ : Nat → Nat} (h : Hmo n f N g φ) (h' : Hmo n f N g ψ) (heq : ∀ x ∈ L, φ x = ψ x) : ∀ a, a < n → φ a = ψ a := fun a ha => by
  have key : a < n ∧ φ a = ψ a := Gen.least (H := fun a => a < n ∧ φ a = ψ a) ⟨G.el, by rw [h.one G K, h'.one G K]⟩ (fun c b hc hb hp ih => ⟨G.cl _ _ ih.1 hb, by
    rw [h.mul _ _ ih.1 hb, h'.mul _ _ ih.1 hb, ih.2, heq b (by simpa using hp)]⟩) (hgen a ha)
  exact key.2
theorem tbm_congr {φ ψ : Nat → Nat} (h : ∀ a, a < n → φ a = ψ a) : tbm n φ = tbm n ψ := List.map_congr_left fun a ha => by rw [h a (List.mem_range.1 ha)]
theorem tbm_inj {φ ψ : Nat → Nat} (h : tbm n φ = tbm n ψ) : ∀ a, a < n → φ a = ψ a := fun a ha => by
  have h1 := tbm_get (φ := φ) ha
  rw [h, tbm_get ha] at h1
  omega
theorem Hmo.congr (G : Grp n f e) {φ ψ : Nat → Nat} (h : Hmo n f N g φ) (he : ∀ a, a < n → φ a = ψ a) : Hmo n f N g ψ :=
  ⟨fun a ha => by rw [← he a ha]; exact h.lt a ha, fun a b ha hb => by rw [← he _ (G.cl _ _ ha hb), ← he a ha, ← he b hb]; exact h.mul a b ha hb⟩

/-- What the search hands out: the maps that start so. -/
theorem hsq_iff (G : Grp n f e) (K : Grp N g d) {L : List Nat} (hL : ∀ x ∈ L, x < n) (hgen : ∀ a, a < n → Gen n f e (fun x => decide (x ∈ L)) a) (w : List Int) : ∀ (r t : List Nat), t.length ≤ L.length → L.drop t.length = r →
    (w ∈ hsq n f e N g d L r t ↔ ∃ φ, Hmo n f N g φ ∧ w = tbm n φ ∧ ∀ i, i < t.length → φ (L.getD i 0) = t.getD i 0)
  | [], t, h1, h2 => by
    have htl : t.length = L.length := by
      have := congrArg List.length h2
      simp at this; omega
    unfold hsq hlf
    constructor
    · intro h
      split at h
      · rename_i hex
        have hs := Classical.choose_spec hex
        exact ⟨_, hs.1, by simpa using h, fun i hi => hs.2 i (by omega)⟩
      · simp at h
    · rintro ⟨φ, k1, rfl, k2⟩
      have hex : ∃ φ, Ext n f N g L t φ := ⟨φ, k1, fun i hi => k2 i (by omega)⟩
      rw [dif_pos hex]
      have hs := Classical.choose_spec hex
      rw [List.mem_singleton]
      refine tbm_congr (Hmo.same G K hgen k1 hs.1 fun x hx => ?_)
      obtain ⟨i, hi, rfl⟩ := List.getElem_of_mem hx
      have e1 : L.getD i 0 = L[i] := by simp [List.getD, List.getElem?_eq_getElem hi]
      rw [← e1, k2 i (by omega), hs.2 i hi]
  | x :: r, t, h1, h2 => by
    have htl : t.length < L.length := by
      have := congrArg List.length h2
      simp at this; omega
    have hd : L.drop t.length = L[t.length] :: L.drop (t.length + 1) := List.drop_eq_getElem_cons htl
    rw [h2] at hd
    obtain ⟨e1, e2⟩ := List.cons.inj hd
    have ex : L.getD t.length 0 = x := by simp [List.getD, List.getElem?_eq_getElem htl, e1]
    have hxn : x < n := by rw [e1]; exact hL _ (List.getElem_mem htl)
    unfold hsq
    rw [List.mem_flatMap]
    constructor
    · rintro ⟨y, hy, hw⟩
      obtain ⟨φ, k1, k2, k3⟩ := (hsq_iff G K hL hgen w r (t ++ [y]) (by simp; omega) (by rw [List.length_append]; exact e2.symm)).1 hw
      refine ⟨φ, k1, k2, fun i hi => ?_⟩
      have := k3 i (by simp; omega)
      rw [this]
      simp [List.getD, List.getElem?_append_left hi]
    · rintro ⟨φ, k1, k2, k3⟩
      refine ⟨φ x, List.mem_filter.2 ⟨List.mem_range.2 (k1.lt x hxn), by simpa using Nat.mod_eq_zero_of_dvd (k1.ord G K hxn)⟩, ?_⟩
      refine (hsq_iff G K hL hgen w r (t ++ [φ x]) (by simp; omega) (by rw [List.length_append]; exact e2.symm)).2 ⟨φ, k1, k2, fun i hi => ?_⟩
      by_cases hit : i < t.length
      · rw [k3 i hit]; simp [List.getD, List.getElem?_append_left hit]
      · obtain rfl : i = t.length := by simp at hi; omega
        rw [ex]; simp [List.getD]
theorem hsq_nodup (G : Grp n f e) (K : Grp N g d) {L : List Nat} (hL : ∀ x ∈ L, x < n) (hgen : ∀ a, a < n → Gen n f e (fun x => decide (x ∈ L)) a) : ∀ (r t : List Nat), t.length ≤ L.length → L.drop t.length = r → (hsq n f e N g d L r t).Nodup
  | [], t, h1, h2 => by
    unfold hsq hlf
    split <;> simp
  | x :: r, t, h1, h2 => by
    have htl : t.length < L.length := by
      have := congrArg List.length h2
      simp at this; omega
    have hd : L.drop t.length = L[t.length] :: L.drop (t.length + 1) := List.drop_eq_getElem_cons htl
    rw [h2] at hd
    obtain ⟨e1, e2⟩ := List.cons.inj hd
    have ex : L.getD t.length 0 = x := by simp [List.getD, List.getElem?_eq_getElem htl, e1]
    have hxn : x < n := by rw [e1]; exact hL _ (List.getElem_mem htl)
    have hl2 : ∀ y, (t ++ [y]).length ≤ L.length ∧ L.drop (t ++ [y]).length = r := fun y => ⟨by simp; omega, by rw [List.length_append]; exact e2.symm⟩
    unfold hsq List.Nodup
    rw [List.pairwise_flatMap]
    refine ⟨fun y _ => hsq_nodup G K hL hgen r (t ++ [y]) (hl2 y).1 (hl2 y).2, ?_⟩
    refine List.Pairwise.imp (R := fun a b => a ≠ b) (fun {y z} hyz w hw w' hw' he => hyz ?_) (List.Pairwise.filter _ List.nodup_range)
    subst he
    obtain ⟨φ, _, k2, k3⟩ := (hsq_iff G K hL hgen w r (t ++ [y]) (hl2 y).1 (hl2 y).2).1 hw
    obtain ⟨ψ, _, q2, q3⟩ := (hsq_iff G K hL hgen w r (t ++ [z]) (hl2 z).1 (hl2 z).2).1 hw'
    have h1 := tbm_inj (k2.symm.trans q2) x hxn
    have h3 := k3 t.length (by simp)
    have h4 := q3 t.length (by simp)
    rw [ex] at h3 h4
    simp [List.getD] at h3 h4
    omega
end

section
variable {n e N d : Nat} {m M : List Int}
/-- All homomorphisms, in some order. -/
noncomputable def hmW (n : Nat) (m : List Int) (e N : Nat) (M : List Int) (d : Nat) : List (List Int) := hsq n (op m n) e N (op M N) d (gl n (op m n) e n) (gl n (op m n) e n) []
theorem hmW_mem (h : GT n m n e) (h' : GT N M N d) (w : List Int) : w ∈ hmW n m e N M d ↔ ∃ φ, Hmo n (op m n) N (op M N) φ ∧ w = tbm n φ := by
  unfold hmW
  refine (hsq_iff h.2.2 h'.2.2 (fun x hx => gl_lt n (op m n) e n x hx) (gl_gen n (op m n) e h.2.2) w _ [] (Nat.zero_le _) rfl).trans ?_
  exact ⟨fun ⟨φ, a, b, _⟩ => ⟨φ, a, b⟩, fun ⟨φ, a, b⟩ => ⟨φ, a, b, fun i hi => absurd hi (Nat.not_lt_zero _)⟩⟩
theorem hmW_nodup (h : GT n m n e) (h' : GT N M N d) : (hmW n m e N M d).Nodup :=
  hsq_nodup h.2.2 h'.2.2 (fun x hx => gl_lt n (op m n) e n x hx) (gl_gen n (op m n) e h.2.2) _ [] (Nat.zero_le _) rfl
theorem hmW_ne (h : GT n m n e) (h' : GT N M N d) : hmW n m e N M d ≠ [] := fun h0 => by
  have : tbm n (fun _ => d) ∈ hmW n m e N M d := (hmW_mem h h' _).2 ⟨_, ⟨fun a ha => h'.2.2.el, fun a b ha hb => (h'.2.2.one_l d h'.2.2.el).symm⟩, rfl⟩
  rw [h0] at this
  simp at this
theorem all_ok (h : GT n m n e) (h' : GT N M N d) (hn : n ≤ 24) (hN : N ≤ 24) (hm : m.length ≤ 1000000000000000) (hM : M.length ≤ 1000000000000000) :
    FnC Tryd.prog 38 [gp n m, gp N M] (.tup [if (hmW n m e N M d).length ≤ 1000 then .list (ll (srtL (hmW n m e N M d))) else .list [], fl (if (hmW n m e N M d).length ≤ 1000 then 0 else 9, 0)]) :=
  all_c h h' hn hN hm hM _ rfl (hmW_ne h h') _ (srtL_perm _) (srtL_strict (hmW_nodup h h'))

/-- All automorphisms, in some order. -/
noncomputable def auW (n : Nat) (m : List Int) (e : Nat) : List (List Int) := (hmW n m e n m e).filter fun v => decide (onto1 v n)
theorem auW_mem (h : GT n m n e) (w : List Int) : w ∈ auW n m e ↔ (∃ φ, Hmo n (op m n) n (op m n) φ ∧ w = tbm n φ) ∧ onto1 w n := by
  unfold auW
  rw [List.mem_filter, hmW_mem h h, decide_eq_true_eq]
theorem auW_nodup (h : GT n m n e) : (auW n m e).Nodup := (hmW_nodup h h).filter _
theorem auW_ne (h : GT n m n e) : auW n m e ≠ [] := fun h0 => by
  have : tbm n (fun a => a) ∈ auW n m e := (auW_mem h _).2 ⟨⟨_, ⟨fun a ha => ha, fun a b ha hb => rfl⟩, rfl⟩, fun i hi => List.mem_map.2 ⟨i, List.mem_range.2 hi, rfl⟩, tbm_len _ _⟩
  rw [h0] at this
  simp at this
theorem autos_ok (h : GT n m n e) (hn : n ≤ 24) (hm : m.length ≤ 1000000000000000) :
    FnC Tryd.prog 13 [gp n m] (.tup [if (auW n m e).length ≤ 1000 then .list (ll (srtL (auW n m e))) else .list [], fl (if (auW n m e).length ≤ 1000 then 0 else 9, 0)]) :=
  autos_c h hn hm _ _ rfl rfl (auW_ne h) _ (srtL_perm _) (srtL_strict (auW_nodup h))
end

/-! ### The laws of maps have begun -/

def cnd (x y : Nat) : List Int := (List.range 8).map fun a => if a < 4 then ((pw (op sq8 8) 0 x a : Nat) : Int) else ((op sq8 8 (pw (op sq8 8) 0 x (a - 4)) y : Nat) : Int)
def cnd8 : List (List Int) := [cnd 1 4, cnd 1 5, cnd 1 6, cnd 1 7, cnd 3 4, cnd 3 5, cnd 3 6, cnd 3 7]
theorem sq8_hom {φ : Nat → Nat} (h : Hmo 8 (op sq8 8) 8 (op sq8 8) φ) : tbm 8 φ = cnd (φ 1) (φ 4) := by
  have G := sq8_e.2.2
  have k1 : ∀ a, a < 4 → pw (op sq8 8) 0 1 a = a := by decide +kernel
  have k2 : ∀ a, a < 8 → ¬ a < 4 → op sq8 8 (a - 4) 4 = a := by decide +kernel
  unfold tbm cnd
  refine List.map_congr_left fun a ha => ?_
  have ha := List.mem_range.1 ha
  have hp : ∀ a, a < 4 → φ a = pw (op sq8 8) 0 (φ 1) a := fun a ha => by
    rw [← h.pw G G (by decide), k1 a ha]
  by_cases h4 : a < 4
  · rw [if_pos h4, ← hp a h4]
  · rw [if_neg h4, ← hp (a - 4) (by omega), ← h.mul _ _ (by omega) (by decide), k2 a ha h4]
theorem sq8_autos : (auW 8 sq8 0).length = 8 := by
  have hnd : cnd8.Nodup := by decide +kernel
  have hp : (auW 8 sq8 0).Perm cnd8 := by
    rw [List.perm_ext_iff_of_nodup (auW_nodup sq8_e) hnd]
    intro w
    rw [auW_mem sq8_e]
    constructor
    · rintro ⟨⟨φ, h1, rfl⟩, h2⟩
      rw [sq8_hom h1] at h2 ⊢
      have key : ∀ x, x < 8 → ∀ y, y < 8 → onto1 (cnd x y) 8 → cnd x y ∈ cnd8 := by decide +kernel
      exact key _ (h1.lt 1 (by decide)) _ (h1.lt 4 (by decide)) h2
    · intro hw
      have k1 : ∀ w ∈ cnd8, onto1 w 8 := by decide +kernel
      have k2 : ∀ w ∈ cnd8, ∀ a, a < 8 → (w.getD a 0).toNat < 8 := by decide +kernel
      have k3 : ∀ w ∈ cnd8, ∀ a, a < 8 → ∀ b, b < 8 → (w.getD (op sq8 8 a b) 0).toNat = op sq8 8 (w.getD a 0).toNat (w.getD b 0).toNat := by decide +kernel
      have k4 : ∀ w ∈ cnd8, w = tbm 8 fun a => (w.getD a 0).toNat := by decide +kernel
      exact ⟨⟨fun a => (w.getD a 0).toNat, ⟨fun a ha => k2 w hw a ha, fun a b ha hb => k3 w hw a ha b hb⟩, k4 w hw⟩, k1 w hw⟩
  rw [hp.length_eq]; decide +kernel
def insR (v : List Int) : List (List Int) → List (List Int)
  | [] => [v]
  | w :: r => if cmpL w v < 0 then w :: insR v r else v :: w :: r
def iny : List (List Int) := (inl' 8 (op sq8 8) 0 8).foldr insR []
theorem homBegun_c : FnC Tryd.prog 17 [] (.bool true) := by
  have h1 := autos_ok sq8_e (by decide) (by decide +kernel)
  have e8 := sq8_autos
  rw [e8] at h1
  have hy1 : (inl' 8 (op sq8 8) 0 8).Perm iny := by decide +kernel
  have hy2 : iny.Pairwise fun v w => ¬ cmpL w v < 0 := by decide +kernel
  have hy3 : (cps [] iny).length = 4 := by decide +kernel
  have h2 := inner_c sq8_e (by decide +kernel) iny hy1 hy2
  have hl : (srtL (auW 8 sq8 0)).length = 8 := by rw [← (srtL_perm _).length_eq, e8]
  refine fnc_of tab_ok Tryd.func17 rfl (by kernel_rfl) (by rw [Tryd.ntmps17]; exact Nat.le_add_left 0 _) ?_; rw [Tryd.ntmps17]
  refine qm ?_
  refine hk_region fun K hK => runs_eval tab_ok ?_
  simp only [ev0, evA, evB, evP, fl, gp, tab, simprocAttr, reduceCtorEq, reduceIte]
  refine fin_run trivial (hK _ ?_) <;> clear hK <;> clear K
  refine qa (qm ?_)
  refine hk_region fun K hK => runs_eval tab_ok ?_
  simp only [ev0, evA, evB, evP, fl, gp, tab, simprocAttr, reduceCtorEq, reduceIte]
  refine fin_stop trivial (runs_call (square_c) rfl rfl rfl (by simp only [dstOk, Nat.reduceLT]) (by repeat (first | exact trivial | constructor)) (runs_eval tab_ok ?_))
  simp only [ev0, evA, evB, evP, fl, gp, tab, simprocAttr, reduceCtorEq, reduceIte]
  refine fin_stop trivial (runs_call (h1) rfl rfl rfl (by simp only [dstOk, Nat.reduceLT]) (by repeat (first | exact trivial | constructor)) (runs_eval tab_ok ?_))
  simp only [ev0, evA, evB, evP, fl, gp, tab, simprocAttr, reduceCtorEq, reduceIte]
  refine fin_run ?_ (hK _ ?_) <;> clear hK <;> clear K
  · (first | exact trivial | omega | (simp only [In64] at *; omega) | (simp [In64] at *; omega) | (simp_all; done) | skip)
  refine qa (qm ?_)
  refine hk_region fun K hK => runs_eval tab_ok ?_
  simp only [ev0, evA, evB, evP, fl, gp, tab, simprocAttr, reduceCtorEq, reduceIte]
  refine fin_stop trivial (runs_call (square_c) rfl rfl rfl (by simp only [dstOk, Nat.reduceLT]) (by repeat (first | exact trivial | constructor)) (runs_eval tab_ok ?_))
  simp only [ev0, evA, evB, evP, fl, gp, tab, simprocAttr, reduceCtorEq, reduceIte]
  refine fin_stop trivial (runs_call (h2) rfl rfl rfl (by simp only [dstOk, Nat.reduceLT]) (by repeat (first | exact trivial | constructor)) (runs_eval tab_ok ?_))
  simp only [ev0, evA, evB, evP, fl, gp, tab, simprocAttr, reduceCtorEq, reduceIte]
  refine fin_run ?_ (hK _ ?_) <;> clear hK <;> clear K
  · (first | exact trivial | omega | (simp only [In64] at *; omega) | (simp [In64] at *; omega) | (simp_all; done) | skip)
  refine qa (qm ?_)
  refine hk_region fun K hK => runs_eval tab_ok ?_
  simp only [ev0, evA, evB, evP, fl, gp, tab, simprocAttr, reduceCtorEq, reduceIte, ll_length, hl, hy3]
  refine fin_run ?_ (hK _ ?_) <;> clear hK <;> clear K
  · (first | exact trivial | omega | (simp only [In64] at *; omega) | (simp [In64] at *; omega) | (simp_all; done) | skip)
  refine qa (qk ?_)
  simp only [Tryd.results17, enA, ev0, evA, evB, evP, fl, gp, tab, simprocAttr, reduceCtorEq, reduceIte]
  all_goals (trace_state)
end Go.Proofs.YtboadfahlflmhaaDoor

/-
  Walks: dihedral groups, dicyclic ones, products; the example of the document. Conditions: none.
-/
set_option linter.all false
namespace Go.Proofs.YtboadfahlflmhaaDoor
open Go.Pv

/-! ### The example of the document -/

end Go.Proofs.YtboadfahlflmhaaDoor

/-
  Walks: products of groups. Conditions: none.
-/
set_option linter.all false
namespace Go.Proofs.YtboadfahlflmhaaDoor
open Go.Pv

/-! ### Products -/

end Go.Proofs.YtboadfahlflmhaaDoor

/-
  Orders of inverses and products: plain laws, with no program in sight. Conditions: none.
-/
set_option linter.all false
namespace Go.Proofs.YtboadfahlflmhaaDoor
open Go.Pv

section
variable {n : Nat} {f : Nat → Nat → Nat} {e : Nat}

end

/-! ### Things, out of their fault -/

end Go.Proofs.YtboadfahlflmhaaDoor

/-
  Products of groups: plain laws, with no program in sight. Conditions: none.
-/
set_option linter.all false
namespace Go.Proofs.YtboadfahlflmhaaDoor
open Go.Pv

theorem Grp.congr {n : Nat} {f f' : Nat → Nat → Nat} {e : Nat} (G : Grp n f e) (h : ∀ a b, a < n → b < n → f' a b = f a b) : Grp n f' e := by
  refine ⟨G.pos, fun a b ha hb => by rw [h a b ha hb]; exact G.cl a b ha hb, G.el, fun a ha => by rw [h e a G.el ha]; exact G.one_l a ha, fun a ha => by rw [h a e ha G.el]; exact G.one_r a ha, fun a b c ha hb hc => ?_, fun a ha => ?_⟩
  · rw [h a b ha hb, h _ c (G.cl a b ha hb) hc, h b c hb hc, h a _ ha (G.cl b c hb hc)]
    exact G.assoc a b c ha hb hc
  · obtain ⟨b, hb, h1, h2⟩ := G.inv a ha
    exact ⟨b, hb, by rw [h a b ha hb]; exact h1, by rw [h b a hb ha]; exact h2⟩
theorem tbl_op (g : Nat → Nat → Nat) {n a b : Nat} (ha : a < n) (hb : b < n) : op (tbl (fun a b => (g a b : Nat)) n) n a b = g a b := by
  unfold op
  rw [tbl_get _ ha hb]; rfl
theorem tbl_GT {n e : Nat} {g : Nat → Nat → Nat} (hn : n ≤ 60) (G : Grp n g e) : GT n (tbl (fun a b => (g a b : Nat)) n) n e := by
  refine ⟨rfl, ⟨G.pos, hn, tbl_len _ _, fun i hi => ?_⟩, G.congr fun a b ha hb => tbl_op g ha hb⟩
  have h1 : i / n < n := Nat.div_lt_of_lt_mul hi
  have h2 : i % n < n := Nat.mod_lt _ G.pos
  have h3 : i / n * n + i % n = i := by rw [Nat.mul_comm]; exact Nat.div_add_mod i n
  have := tbl_get (fun a b => ((g a b : Nat) : Int)) h1 h2
  rw [h3] at this
  rw [this]
  have := G.cl _ _ h1 h2
  omega

section
variable {n n' e e' : Nat} {f f' : Nat → Nat → Nat}

end

end Go.Proofs.YtboadfahlflmhaaDoor

/-
  Plain law: cyclic, dihedral and dicyclic tables are groups; what is told of them. Conditions: none.
-/
set_option linter.all false
namespace Go.Proofs.YtboadfahlflmhaaDoor
open Go.Pv

theorem cyc_grp {n : Nat} (hn : 1 ≤ n) : Grp n (cyc n) 0 where
  pos := hn
  cl a b _ _ := Nat.mod_lt _ hn
  el := hn
  one_l a ha := by simp only [cyc, Nat.zero_add]; exact Nat.mod_eq_of_lt ha
  one_r a ha := by simp only [cyc, Nat.add_zero]; exact Nat.mod_eq_of_lt ha
  assoc a b c _ _ _ := by simp only [cyc, Nat.mod_add_mod, Nat.add_mod_mod, Nat.add_assoc]
  inv a ha := ⟨(n - a) % n, Nat.mod_lt _ hn, by simp only [cyc, Nat.add_mod_mod]; rw [Nat.add_sub_cancel' (by omega), Nat.mod_self], by simp only [cyc, Nat.mod_add_mod]; rw [Nat.sub_add_cancel (by omega), Nat.mod_self]⟩

/-- Two rows of q things. -/
def gx (q c i s j t : Nat) : Nat := (i + (if s + t = 2 then c else 0) + (if s = 1 then q - j else j)) % q
def gen (q c a b : Nat) : Nat := gx q c (a % q) (a / q) (b % q) (b / q) + (a / q + b / q) % 2 * q

/-! ### The three tables -/

/-! ### The dihedral group moves the corners -/

/-! ### The dicyclic group -/

section
variable {n : Nat} (h1 : 1 ≤ n) (h2 : n ≤ 15)
include h1
include h2
end
end Go.Proofs.YtboadfahlflmhaaDoor

/-
  Homomorphisms of cyclic groups, counted. Conditions: none.
-/
set_option linter.all false
namespace Go.Proofs.YtboadfahlflmhaaDoor
open Go.Pv

section
variable {n N d : Nat} {g : Nat → Nat → Nat} {M : List Int} {φ : Nat → Nat}
theorem pw_mod_n (K : Grp N g d) {a : Nat} (ha : a < N) (hn : ord N g d a ∣ n) (k : Nat) : pw g d a (k % n) = pw g d a k := by
  obtain ⟨c, rfl⟩ := hn
  rw [← K.pw_mod ha, ← K.pw_mod ha k, Nat.mod_mul_right_mod]
theorem cyc_hom (hn : 1 ≤ n) (K : Grp N g d) (h : Hmo n (cyc n) N g φ) : φ (1 % n) < N ∧ ord N g d (φ (1 % n)) ∣ n ∧ ∀ k, k < n → φ k = pw g d (φ (1 % n)) k := by
  have G := cyc_grp hn
  have h0 : φ 0 = d := h.one G K
  have ha := h.lt (1 % n) (Nat.mod_lt _ (by omega))
  have hk : ∀ k, k < n → φ k = pw g d (φ (1 % n)) k := fun k => by
    induction k with
    | zero => intro _; exact h0
    | succ k ih =>
      intro hk
      have e1 : cyc n k (1 % n) = k + 1 := by
        unfold cyc
        rw [Nat.mod_eq_of_lt (show 1 < n by omega), Nat.mod_eq_of_lt hk]
      have := h.mul k (1 % n) (by omega) (Nat.mod_lt _ (by omega))
      rw [e1, ih (by omega)] at this
      exact this
  refine ⟨ha, ?_, hk⟩
  rw [← K.pw_eq_one ha]
  obtain ⟨j, rfl⟩ : ∃ j, n = j + 1 := ⟨n - 1, by omega⟩
  have e1 : cyc (j + 1) j (1 % (j + 1)) = 0 := by
    unfold cyc
    by_cases hj : j = 0
    · subst hj; rfl
    · rw [Nat.mod_eq_of_lt (show 1 < j + 1 by omega), Nat.mod_self]
  have := h.mul j (1 % (j + 1)) (by omega) (Nat.mod_lt _ (by omega))
  rw [e1, h0, hk j (by omega)] at this
  exact this.symm
theorem hom_cyc (hn : 1 ≤ n) (K : Grp N g d) {a : Nat} (ha : a < N) (ho : ord N g d a ∣ n) : Hmo n (cyc n) N g (pw g d a) :=
  ⟨fun k _ => K.pw_lt ha k, fun x y _ _ => by
    show pw g d a ((x + y) % n) = _
    rw [pw_mod_n K ha ho, K.pw_add ha]⟩
end
section
variable {n N d : Nat} {M : List Int}
/-- The ring's table. -/
def rgt (n : Nat) : List Int := tbl (fun a b => (((a + b) % n : Nat) : Int)) n
theorem rgt_GT (hn : 1 ≤ n) (h60 : n ≤ 60) : GT n (rgt n) n 0 := tbl_GT (g := cyc n) h60 (cyc_grp hn)
theorem rgt_op {a b : Nat} (ha : a < n) (hb : b < n) : op (rgt n) n a b = cyc n a b := tbl_op' (cyc n) ha hb
theorem rgt_hmo {φ : Nat → Nat} {g : Nat → Nat → Nat} : Hmo n (op (rgt n) n) N g φ ↔ Hmo n (cyc n) N g φ := by
  constructor
  · rintro ⟨h1, h2⟩
    exact ⟨h1, fun a b ha hb => by rw [← rgt_op ha hb]; exact h2 a b ha hb⟩
  · rintro ⟨h1, h2⟩
    exact ⟨h1, fun a b ha hb => by rw [rgt_op ha hb]; exact h2 a b ha hb⟩
/-- As many homomorphisms as things whose orders divide. -/
theorem cyc_num (hn : 1 ≤ n) (h60 : n ≤ 60) (h : GT N M N d) : (hmW n (rgt n) 0 N M d).length = (thl N fun a => decide (n % ord N (op M N) d a = 0)).length := by
  have K := h.2.2
  have hp : (hmW n (rgt n) 0 N M d).Perm ((thn' N fun a => decide (n % ord N (op M N) d a = 0)).map fun a => tbm n (pw (op M N) d a)) := by
    refine (List.perm_ext_iff_of_nodup (hmW_nodup (rgt_GT hn h60) h) (nodup_map (List.nodup_range.filter _) fun a ha b hb hab => ?_)).2 fun w => ?_
    · obtain ⟨a1, a2⟩ := mem_thn.1 ha
      obtain ⟨b1, b2⟩ := mem_thn.1 hb
      simp only [decide_eq_true_eq] at a2 b2
      by_cases h1 : n = 1
      · subst h1
        have key : ∀ c, c < N → 1 % ord N (op M N) d c = 0 → c = d := fun c hc h2 => by
          have h3 := K.ord_pos hc
          have h4 : ord N (op M N) d c = 1 := Nat.dvd_one.1 (Nat.dvd_of_mod_eq_zero h2)
          have := K.pw_ord hc
          rw [h4, K.pw_one hc] at this
          exact this
        rw [key a a1 a2, key b b1 b2]
      · have := tbm_inj hab 1 (by omega)
        rwa [K.pw_one a1, K.pw_one b1] at this
    · rw [hmW_mem (rgt_GT hn h60) h, List.mem_map]
      constructor
      · rintro ⟨φ, h1, rfl⟩
        obtain ⟨q1, q2, q3⟩ := cyc_hom hn K (rgt_hmo.1 h1)
        exact ⟨φ (1 % n), mem_thn.2 ⟨q1, by simpa using Nat.mod_eq_zero_of_dvd q2⟩, (tbm_congr q3).symm⟩
      · rintro ⟨a, ha, rfl⟩
        obtain ⟨a1, a2⟩ := mem_thn.1 ha
        simp only [decide_eq_true_eq] at a2
        exact ⟨_, rgt_hmo.2 (hom_cyc hn K a1 (Nat.dvd_of_mod_eq_zero a2)), rfl⟩
  rw [hp.length_eq, List.length_map, thl_len]
end
end Go.Proofs.YtboadfahlflmhaaDoor

/-
  The law HomCyclic. Conditions: none.
-/
set_option linter.all false
namespace Go.Proofs.YtboadfahlflmhaaDoor
open Go.Pv

theorem hcy1_c {n e : Nat} {m : List Int} (h : GT n m n e) (k : Nat) {a : Nat} (ha : a < n) : FnC Tryd.prog 41 [.int .i64 a, .ptr [.int .i64 k], .ptr [.int .i64 n, .list (il m)]] (.bool (decide (k % ord n (op m n) e a = 0))) := by
  have hp := h.2.2.ord_pos ha
  refine fnc_of tab_ok Tryd.func41 rfl (by kernel_rfl) (by rw [Tryd.ntmps41]; exact Nat.le_add_left 3 _) ?_; rw [Tryd.ntmps41]
  refine qm ?_
  refine hk_region fun K hK => runs_eval tab_ok ?_
  simp only [ev0, evA, evB, evP, fl, gp, tab, simprocAttr, reduceCtorEq, reduceIte]
  refine fin_run trivial (hK _ ?_) <;> clear hK <;> clear K
  refine qa (qm ?_)
  refine hk_draw mixed (by kernel_rfl) fun K hK => runs_eval tab_ok ?_
  simp only [ev0, evA, evB, evP, fl, gp, tab, simprocAttr, reduceCtorEq, reduceIte]
  refine fin_stop trivial (runs_call (o_c h ha) rfl rfl rfl (by simp only [dstOk, Nat.reduceLT]) (by repeat (first | exact trivial | constructor)) (runs_eval tab_ok ?_))
  simp only [ev0, evA, evB, evP, fl, gp, tab, simprocAttr, reduceCtorEq, reduceIte]
  refine fin_run ?_ (hK _ ?_) <;> clear hK <;> clear K
  · (first | exact trivial | omega | (simp only [In64] at *; omega) | (simp [In64] at *; omega) | (simp_all; done) | skip)
  refine qa (qk ?_)
  simp only [Tryd.results41, enA, ev0, evA, evB, evP, fl, gp, tab, simprocAttr, reduceCtorEq, reduceIte]
  all_goals (exact decide_eq_decide.2 ⟨fun h => by omega, fun h => by omega⟩)

set_option maxHeartbeats 4000000 in
theorem homCyclic_c (N : Int) (m : List Int) (k : Int) (hm : m.length ≤ 17592186043904) (hk : In64 k) : FnC Tryd.prog 6 [gp N m, .int .i64 k] (.bool true) := by
  have hG := gf_c N m (by omega)
  have key : k < 1 ∨ (¬ k < 1 ∧ k > 24) ∨ ((¬ k < 1 ∧ ¬ k > 24) ∧ ¬ (gf N m).1 = 0) ∨ ((¬ k < 1 ∧ ¬ k > 24) ∧ (gf N m).1 = 0 ∧ N > 24) ∨ (∃ j n e : Nat, k = j ∧ 1 ≤ j ∧ j ≤ 24 ∧ GT N m n e ∧ n ≤ 24 ∧ (gf N m).1 = 0) := by
    by_cases k1 : k < 1
    · exact .inl k1
    · by_cases k2 : k > 24
      · exact .inr (.inl ⟨k1, k2⟩)
      · by_cases h1 : (gf N m).1 = 0
        · by_cases h2 : N > 24
          · exact .inr (.inr (.inr (.inl ⟨⟨k1, k2⟩, h1, h2⟩)))
          · obtain ⟨n, e, h, _⟩ := gf_ok h1
            have := h.1
            exact .inr (.inr (.inr (.inr ⟨k.toNat, n, e, by omega, by omega, by omega, h, by omega, h1⟩)))
        · exact .inr (.inr (.inl ⟨⟨k1, k2⟩, h1⟩))
  refine fnc_of tab_ok Tryd.func6 rfl (by kernel_rfl) (by rw [Tryd.ntmps6]; exact Nat.le_add_left 2 _) ?_; rw [Tryd.ntmps6]
  refine qm ?_
  refine hk_region fun K hK => runs_eval tab_ok ?_
  simp only [ev0, evA, evB, evP, fl, gp, tab, simprocAttr, reduceCtorEq, reduceIte]
  refine fin_run ?_ (hK _ ?_) <;> clear hK <;> clear K
  · (first | exact trivial | omega | (simp only [In64] at *; omega) | (simp [In64] at *; omega) | (simp_all; done) | skip)
  refine qa (qm (qm ?_))
  refine hk_region fun K hK => runs_eval tab_ok ?_
  simp only [ev0, evA, evB, evP, fl, gp, tab, simprocAttr, reduceCtorEq, reduceIte]
  refine fin_stop trivial (runs_call (homBegun_c) rfl rfl rfl (by simp only [dstOk, Nat.reduceLT]) (by repeat (first | exact trivial | constructor)) (runs_eval tab_ok ?_))
  simp only [ev0, evA, evB, evP, fl, gp, tab, simprocAttr, reduceCtorEq, reduceIte]
  refine fin_run trivial (hK _ ?_) <;> clear hK <;> clear K
  refine qa ?_
  refine hk_cond rfl (fun hC1 => ?_) (fun hC1 => ?_)
  · cases hC1
  · (try simp only [nhs] at hC1)
    refine qh (qa (qm (qm ?_)))
    rcases key with k1 | ⟨k1, k2⟩ | ⟨⟨k1, k2⟩, k3⟩ | ⟨⟨k1, k2⟩, k3, k4⟩ | ⟨j, n, e, rfl, k1, k2, h, k3, k4⟩
    · refine hk_region fun K hK => runs_eval tab_ok ?_
      simp only [ev0, evA, evB, evP, fl, gp, tab, simprocAttr, reduceCtorEq, reduceIte, decide_eq_true k1]
      refine fin_run ?_ (hK _ ?_) <;> clear hK <;> clear K
      · (first | exact trivial | omega | (simp only [In64] at *; omega) | (simp [In64] at *; omega) | (simp_all; done) | skip)
      refine qa ?_
      refine hk_cond rfl (fun hC2 => ?_) (fun hC2 => ?_)
      · refine qm ?_
        refine hk_region fun K hK => runs_eval tab_ok ?_
        simp only [ev0, evA, evB, evP, fl, gp, tab, simprocAttr, reduceCtorEq, reduceIte]
        refine fin_run trivial (hK _ ?_) <;> clear hK <;> clear K
        refine qa (qk (qb ?_))
        simp only [Tryd.results6, enA, ev0, evA, evB, evP, fl, gp, tab, simprocAttr, reduceCtorEq, reduceIte]
        all_goals (rfl)
      · cases hC2
    · refine hk_region fun K hK => runs_eval tab_ok ?_
      simp only [ev0, evA, evB, evP, fl, gp, tab, simprocAttr, reduceCtorEq, reduceIte, decide_eq_false k1, decide_eq_true k2]
      refine fin_run ?_ (hK _ ?_) <;> clear hK <;> clear K
      · (first | exact trivial | omega | (simp only [In64] at *; omega) | (simp [In64] at *; omega) | (simp_all; done) | skip)
      refine qa ?_
      refine hk_cond rfl (fun hC2 => ?_) (fun hC2 => ?_)
      · refine qm ?_
        refine hk_region fun K hK => runs_eval tab_ok ?_
        simp only [ev0, evA, evB, evP, fl, gp, tab, simprocAttr, reduceCtorEq, reduceIte]
        refine fin_run trivial (hK _ ?_) <;> clear hK <;> clear K
        refine qa (qk (qb ?_))
        simp only [Tryd.results6, enA, ev0, evA, evB, evP, fl, gp, tab, simprocAttr, reduceCtorEq, reduceIte]
        all_goals (rfl)
      · cases hC2
    · refine hk_region fun K hK => runs_eval tab_ok ?_
      simp only [ev0, evA, evB, evP, fl, gp, tab, simprocAttr, reduceCtorEq, reduceIte, decide_eq_false k1, decide_eq_false k2, decide_eq_false k3]
      refine fin_stop trivial (runs_call (hG) rfl rfl rfl (by simp only [dstOk, Nat.reduceLT]) (by repeat (first | exact trivial | constructor)) (runs_eval tab_ok ?_))
      simp only [ev0, evA, evB, evP, fl, gp, tab, simprocAttr, reduceCtorEq, reduceIte, decide_eq_false k1, decide_eq_false k2, decide_eq_false k3]
      refine fin_run ?_ (hK _ ?_) <;> clear hK <;> clear K
      · (first | exact trivial | omega | (simp only [In64] at *; omega) | (simp [In64] at *; omega) | (simp_all; done) | skip)
      refine qa ?_
      refine hk_cond rfl (fun hC2 => ?_) (fun hC2 => ?_)
      · refine qm ?_
        refine hk_region fun K hK => runs_eval tab_ok ?_
        simp only [ev0, evA, evB, evP, fl, gp, tab, simprocAttr, reduceCtorEq, reduceIte]
        refine fin_run trivial (hK _ ?_) <;> clear hK <;> clear K
        refine qa (qk (qb ?_))
        simp only [Tryd.results6, enA, ev0, evA, evB, evP, fl, gp, tab, simprocAttr, reduceCtorEq, reduceIte]
        all_goals (rfl)
      · cases hC2
    · refine hk_region fun K hK => runs_eval tab_ok ?_
      simp only [ev0, evA, evB, evP, fl, gp, tab, simprocAttr, reduceCtorEq, reduceIte, decide_eq_false k1, decide_eq_false k2, k3, decide_eq_true k4]
      refine fin_stop trivial (runs_call (hG) rfl rfl rfl (by simp only [dstOk, Nat.reduceLT]) (by repeat (first | exact trivial | constructor)) (runs_eval tab_ok ?_))
      simp only [ev0, evA, evB, evP, fl, gp, tab, simprocAttr, reduceCtorEq, reduceIte, decide_eq_false k1, decide_eq_false k2, k3, decide_eq_true k4]
      refine fin_run ?_ (hK _ ?_) <;> clear hK <;> clear K
      · (first | exact trivial | omega | (simp only [In64] at *; omega) | (simp [In64] at *; omega) | (simp_all; done) | skip)
      refine qa ?_
      refine hk_cond rfl (fun hC2 => ?_) (fun hC2 => ?_)
      · (try simp only [nhs] at hC2)
        refine qm ?_
        refine hk_region fun K hK => runs_eval tab_ok ?_
        simp only [ev0, evA, evB, evP, fl, gp, tab, simprocAttr, reduceCtorEq, reduceIte]
        refine fin_run trivial (hK _ ?_) <;> clear hK <;> clear K
        refine qa (qk (qb ?_))
        simp only [Tryd.results6, enA, ev0, evA, evB, evP, fl, gp, tab, simprocAttr, reduceCtorEq, reduceIte]
        all_goals (rfl)
      · cases hC2
    · obtain rfl := h.1
      have hA := all_ok (rgt_GT k1 (by omega)) h (by omega) k3 (by unfold rgt; rw [tbl_len]; have := Nat.mul_le_mul k2 k2; omega) (by omega)
      have hR : FnC Tryd.prog 39 [.int .i64 j] (gp j (rgt j)) := ringOf_c j k1 (by omega)
      have hC := cyc_num k1 (by omega) h
      have hT := those_c n m _ _ (fun a => decide (j % ord n (op m n) e a = 0)) (by omega) (fun a ha => hcy1_c h j ha)
      have hle := thl_le n fun a => decide (j % ord n (op m n) e a = 0)
      have h1000 : (hmW j (rgt j) 0 n m e).length ≤ 1000 := by omega
      have hsl : (srtL (hmW j (rgt j) 0 n m e)).length = (hmW j (rgt j) 0 n m e).length := (srtL_perm _).length_eq.symm
      rw [if_pos h1000, if_pos h1000] at hA
      refine hk_region fun K hK => runs_eval tab_ok ?_
      simp only [ev0, evA, evB, evP, fl, gp, tab, simprocAttr, reduceCtorEq, reduceIte, decide_eq_false (show ¬ ((j : Nat) : Int) < 1 by omega), decide_eq_false (show ¬ ((j : Nat) : Int) > 24 by omega), k4, decide_eq_false (show ¬ ((n : Nat) : Int) > 24 by omega)]
      refine fin_stop trivial (runs_call (hG) rfl rfl rfl (by simp only [dstOk, Nat.reduceLT]) (by repeat (first | exact trivial | constructor)) (runs_eval tab_ok ?_))
      simp only [ev0, evA, evB, evP, fl, gp, tab, simprocAttr, reduceCtorEq, reduceIte, decide_eq_false (show ¬ ((j : Nat) : Int) < 1 by omega), decide_eq_false (show ¬ ((j : Nat) : Int) > 24 by omega), k4, decide_eq_false (show ¬ ((n : Nat) : Int) > 24 by omega)]
      refine fin_run ?_ (hK _ ?_) <;> clear hK <;> clear K
      · (first | exact trivial | omega | (simp only [In64] at *; omega) | (simp [In64] at *; omega) | (simp_all; done) | skip)
      refine qa ?_
      refine hk_cond rfl (fun hC2 => ?_) (fun hC2 => ?_)
      · cases hC2
      · (try simp only [nhs] at hC2)
        refine qh (qa (qm ?_))
        refine hk_draw2 mixed fun K hK => runs2_eval tab_ok ?_
        simp only [evD, ev0, evA, evB, evP, fl, gp, tab, simprocAttr, reduceCtorEq, reduceIte]
        refine fin2_stop trivial (runs2_call (hR) rfl rfl rfl rfl (by simp only [dstOk, Nat.reduceLT]) (by repeat (first | exact trivial | constructor)) (runs2_eval tab_ok ?_))
        simp only [evD, ev0, evA, evB, evP, fl, gp, tab, simprocAttr, reduceCtorEq, reduceIte]
        refine fin2_stop trivial (runs2_call (hA) rfl rfl rfl rfl (by simp only [dstOk, Nat.reduceLT]) (by repeat (first | exact trivial | constructor)) (runs2_eval tab_ok ?_))
        simp only [evD, ev0, evA, evB, evP, fl, gp, tab, simprocAttr, reduceCtorEq, reduceIte]
        refine fin2_run ?_ (hK _ _ (by first | kernel_rfl | rfl) ?_) <;> clear hK <;> clear K
        · (first | exact trivial | omega | (simp only [In64] at *; omega) | (simp [In64] at *; omega) | (simp_all; done) | skip)
        refine qa (qm ?_)
        refine hk_freeze 0 rfl rfl ?_
        refine hk_freeze 1 rfl rfl ?_
        refine hk_pure 2 rfl (Nat.zero_le _) ?_
        refine hk_pure 3 rfl (Nat.zero_le _) ?_
        simp only [hset, List.drop_zero]
        refine hk_region fun K hK => runs_eval tab_ok ?_
        simp only [ev0, evA, evB, evP, fl, gp, tab, simprocAttr, reduceCtorEq, reduceIte, ll_length, hsl, hC, il_length]
        refine fin_stop trivial (runs_call (hT) rfl rfl rfl (by simp only [dstOk, Nat.reduceLT]) (by repeat (first | exact trivial | constructor)) (runs_eval tab_ok ?_))
        simp only [ev0, evA, evB, evP, fl, gp, tab, simprocAttr, reduceCtorEq, reduceIte, ll_length, hsl, hC, il_length]
        refine fin_run ?_ (hK _ ?_) <;> clear hK <;> clear K
        · (first | exact trivial | omega | (simp only [In64] at *; omega) | (simp [In64] at *; omega) | (simp_all; done) | skip)
        refine qa (qk ?_)
        simp only [Tryd.results6, enA, ev0, evA, evB, evP, fl, gp, tab, simprocAttr, reduceCtorEq, reduceIte]
        all_goals (rfl)
end Go.Proofs.YtboadfahlflmhaaDoor

/-
  What the listed package-level variable gives a walk: a table of numbers. Conditions: none; written by a program of this repo.
-/
set_option linter.all false
namespace Go.Proofs.YtboadfahlflmhaaDoor
open Go.Pv Go.ChangeShapes Go.WideShapes Go.ChangeAt Go.WideElems Go.RowKit

theorem own : ownKnob Tryd.prog.godebug = none := by kernel_rfl
theorem laidOut : laidOutB Tryd.prog = true := by kernel_rfl
theorem gG : Tryd.prog.globalNamed "math/bits.deBruijn64tab" = some 0 := by kernel_rfl
theorem tG : (Tryd.prog.globals[0]?).map (·.type) = some 135 := by kernel_rfl
theorem cG : Tryd.prog.cellsOf 5 = 1 := by kernel_rfl
/-- The door's own heap meets the condition. -/
theorem door_met (os : Os) (args : Array Value) : laidMetH Tryd.prog [("math/bits.deBruijn64tab", Rows.laid_math_bits_deBruijn64tab)] ((World.doorLaid Tryd.prog 4000 os).forCall (fun _ _ => 0) ⟨#[], args, []⟩).memory :=
  laidMetH_of_parts3 (fuel := 8) (laidMet_of_run' 8 (by kernel_rfl) (by kernel_rfl)) (by kernel_rfl) (by kernel_rfl)

def convD : DataW Unit → PV
  | .lit (.int k n) => .int k n
  | _ => .nil
def datum : List (DataW Unit) → List PV := List.map convD
theorem glob_datum : (match (Rows.laid_math_bits_deBruijn64tab : DataW Unit) with | .agg l => datum l | _ => []) = glob0 := rfl

theorem laid_ok {W : World} (h : laidMetH Tryd.prog [("math/bits.deBruijn64tab", Rows.laid_math_bits_deBruijn64tab)] W) : LaidW (fun b => b < W.heap.size) W := by
  refine ⟨fun b h => h, fun g l hg => ?_⟩
  have hg2 : g = 0 ∧ l = glob0 := by
    unfold gv at hg
    by_cases e : g = 0
    · subst e; exact ⟨rfl, (Option.some.inj hg).symm⟩
    · have : (g == 0) = false := by simpa using e
      rw [this] at hg; simp at hg
  obtain ⟨rfl, rfl⟩ := hg2
  rw [MakeChecks.laidMetH_plain _ _ _ (by kernel_rfl)] at h
  obtain ⟨ps, ⟨g0, t0, cs0, f0, p0, q0, hg0, ht0, hv0, hd0, _, _⟩, _, _⟩ := h
  obtain rfl := Option.some.inj (gG.symm.trans hg0)
  obtain rfl := Option.some.inj (tG.symm.trans ht0)
  obtain ⟨xs, m1, rfl, hx1, hlen, hn3, hel⟩ := DataW.trod_array Tryd.underlying135 hd0
  have hd1 : Rows.laid_math_bits_deBruijn64tab = DataW.agg (xs.map (·.1)) := congrArg Prod.fst hx1
  have hgl : glob0 = datum (xs.map (·.1)) := by
    rw [← glob_datum, hd1]
  have key : ∀ c (h : c < glob0.length), W.cell? ⟨0, 0 + c, none⟩ = some ((cs0[c]?).getD undef) ∧ Reads (fun b => b < W.heap.size) W glob0[c] ((cs0[c]?).getD undef) := by
    intro c hc
    have hc2 : c < 64 := Nat.lt_of_lt_of_le hc (by decide)
    have hcx : c < xs.length := by omega
    have h1 := hel c hc2
    rw [List.getElem?_eq_getElem hcx] at h1
    obtain ⟨k, e1, e2, _⟩ := DataW.trod_int Tryd.underlying5 h1
    rw [cG] at e1
    have e3 : cs0.toList[c]? = some (.int .u8 k) := by
      have := congrArg (fun l => l[0]?) e1
      simpa [List.getElem?_take, List.getElem?_drop] using this
    have e4 : cs0[c]? = some (.int .u8 k) := by simpa using e3
    have e5 : glob0[c] = .int .u8 k := by
      have : glob0[c]? = (datum (xs.map (·.1)))[c]? := by rw [hgl]
      rw [List.getElem?_eq_getElem hc] at this
      simp only [datum, List.getElem?_map, List.getElem?_eq_getElem hcx, Option.map_some, Option.some.injEq] at this
      exact this.trans (by rw [e2]; rfl)
    refine ⟨?_, ?_⟩
    · rw [e4, Nat.zero_add, World.var?_cell gG hv0 c, e4]; rfl
    · rw [e4]
      exact e5 ▸ (Reads.int .u8 k)
  refine .ptr _ _ _ (fun c => (cs0[c]?).getD undef) ?_ (fun c hc => (key c hc).1) fun c hc => (key c hc).2
  have := (key 0 (by decide)).1
  unfold World.cell? at this
  rcases Nat.lt_or_ge 0 W.heap.size with h | h
  · exact h
  · exfalso
    rw [Array.getElem?_eq_none h] at this
    simp at this
end Go.Proofs.YtboadfahlflmhaaDoor
