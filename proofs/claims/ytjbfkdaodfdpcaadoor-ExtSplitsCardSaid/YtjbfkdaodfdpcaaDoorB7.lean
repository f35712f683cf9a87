/-
  Texts of this proof, one behind the other: what each says stands at its head. Conditions: none.
-/
import Derived.Test.YtjbfkdaodfdpcaaDoorB6
import Derived.Test.YtjbfkdaodfdpcaaDoorB5
import Derived.Test.YtjbfkdaodfdpcaaDoorB4
import Derived.ChangeKeysEq

/-
  All subgroups as the document has them. Conditions: none.
-/
set_option linter.all false
namespace Go.Proofs.YtjbfkdaodfdpcaaDoor
open Go.Pv

section
variable {n e : Nat} {m : List Int}
/-- Lists of codes of subgroups. -/
structure SgL (n : Nat) (f : Nat → Nat → Nat) (e : Nat) (L : List Nat) : Prop where
  nodup : L.Nodup
  subs : ∀ x ∈ L, ∃ p, Sub n f e p ∧ x = bo n p
theorem SgL.len {f : Nat → Nat → Nat} {L : List Nat} (h : SgL n f e L) (hn : n ≤ 24) : L.length ≤ 2 ^ n ∧ 2 ^ n ≤ 16777216 :=
  ⟨nodup_lt h.nodup fun x hx => by obtain ⟨p, _, rfl⟩ := h.subs x hx; exact bo_lt n p, Nat.le_trans (Nat.pow_le_pow_right (by omega) hn) (by decide)⟩
theorem SgL.mem {f : Nat → Nat → Nat} {L : List Nat} (h : SgL n f e L) (hn : n ≤ 24) (p : Nat → Bool) : thl n p ∈ sll L ↔ bo n p ∈ L := by
  constructor
  · intro hm
    obtain ⟨x, hx, hxp⟩ := List.mem_map.1 hm
    obtain ⟨q, _, rfl⟩ := h.subs x hx
    rw [stl_bo (by omega)] at hxp
    have : bo n q = bo n p := bo_congr fun a ha => thl_inj hxp ha
    rwa [this] at hx
  · exact fun hm => List.mem_map.2 ⟨_, hm, stl_bo (by omega) p⟩
theorem SgL.put {f : Nat → Nat → Nat} {L : List Nat} (h : SgL n f e L) {p : Nat → Bool} (hp : Sub n f e p) (hin : bo n p ∉ L) : SgL n f e (L ++ [bo n p]) :=
  ⟨List.nodup_append.2 ⟨h.nodup, by simp, fun x hx y hy he => by rw [List.mem_singleton] at hy; rw [he, hy] at hx; exact hin hx⟩, fun x hx => by
    rcases List.mem_append.1 hx with hx | hx
    · exact h.subs x hx
    · rw [List.mem_singleton] at hx; exact ⟨p, hp, hx⟩⟩
/-- What two lists make is there. -/
def Jn (n : Nat) (f : Nat → Nat → Nat) (e : Nat) (x y : Nat) (M : List Nat) : Prop := ∀ p c : Nat → Bool, x = bo n p → y = bo n c → bo n (gn n f e (oru2 p c)) ∈ M
theorem gn_congr {f : Nat → Nat → Nat} {p q : Nat → Bool} (h : ∀ a, a < n → p a = q a) : bo n (gn n f e p) = bo n (gn n f e q) := bo_congr fun a ha => by
  rw [Bool.eq_iff_iff, gn_iff _ a ha, gn_iff _ a ha]
  exact Gen.congr h
theorem bo_eq2 {p q : Nat → Bool} (h : bo n p = bo n q) : ∀ y, y < n → p y = q y := fun y hy => by
  have := congrArg (fun x => Nat.testBit x y) h
  simpa [bo_bit, hy] using this
theorem Jn.of {f : Nat → Nat → Nat} {x y : Nat} {M : List Nat} {p c : Nat → Bool} (hx : x = bo n p) (hy : y = bo n c) (h : bo n (gn n f e (oru2 p c)) ∈ M) : Jn n f e x y M := fun p' c' h1 h2 => by
  have : bo n (gn n f e (oru2 p' c')) = bo n (gn n f e (oru2 p c)) := gn_congr fun a ha => by
    unfold oru2
    rw [bo_eq2 (h1.symm.trans hx) a ha, bo_eq2 (h2.symm.trans hy) a ha]
  rw [this]; exact h
theorem Jn.mono {f : Nat → Nat → Nat} {x y : Nat} {M M' : List Nat} (h : Jn n f e x y M) (hs : ∀ z ∈ M, z ∈ M') : Jn n f e x y M' := fun p c h1 h2 => hs _ (h p c h1 h2)
theorem SgL.at {f : Nat → Nat → Nat} {L : List Nat} (h : SgL n f e L) (hn : n ≤ 60) {i : Nat} (hi : i < L.length) : ∃ p, Sub n f e p ∧ L.getD i 0 = bo n p ∧ (sll L).getD i [] = thl n p := by
  obtain ⟨p, hp, hx⟩ := h.subs _ (getD_memN hi)
  exact ⟨p, hp, hx, by rw [sll_get hi, hx, stl_bo hn]⟩
end
end Go.Proofs.YtjbfkdaodfdpcaaDoor

/-
  Walks: maps of groups: the fault of a map. Conditions: none.
-/
set_option linter.all false
namespace Go.Proofs.YtjbfkdaodfdpcaaDoor
open Go.Pv

/-- The fault of two groups. -/
def tg (N : Int) (m : List Int) (N' : Int) (m' : List Int) : Int × Int := if (gf N m).1 = 0 then gf N' m' else gf N m

/-- The value of a map. -/
def hv (l : List Int) (a : Nat) : Nat := (l.getD a 0).toNat
def hgood (m m' l : List Int) (n n' a : Nat) : Prop := ∀ b, b < n → op m' n' (hv l a) (hv l b) = hv l (op m n a b)
instance (m m' l : List Int) (n n' a : Nat) : Decidable (hgood m m' l n n' a) := by unfold hgood; infer_instance
def homf2 (m m' l : List Int) (n n' : Nat) : Int × Int :=
  match fst' (fun a => decide (¬ hgood m m' l n n' a)) n with
  | some a => (7, (a : Int))
  | none => (0, 0)
/-- THE FAULT of a map of groups. -/
def homf (N : Int) (m : List Int) (N' : Int) (m' l : List Int) : Int × Int :=
  if ¬ (tg N m N' m').1 = 0 then tg N m N' m'
  else if ¬ (l.length : Int) = N then (8, 0)
  else match fst' (bad N' l) l.length with
    | some i => (3, (i : Int))
    | none => homf2 m m' l N.toNat N'.toNat

/-- A map of groups. -/
def Hom (m m' l : List Int) (n n' : Nat) : Prop := l.length = n ∧ (∀ a, a < n → l.getD a 0 = ((hv l a : Nat) : Int) ∧ hv l a < n') ∧ ∀ a, a < n → hgood m m' l n n' a
end Go.Proofs.YtjbfkdaodfdpcaaDoor

/-
  Walks: lists of lists, one to one, one map then another. Conditions: none.
-/
set_option linter.all false
namespace Go.Proofs.YtjbfkdaodfdpcaaDoor
open Go.Pv

/-- A list of so many things has each of them. -/
def onto1 (l : List Int) (n : Nat) : Prop := (∀ i, i < n → ((i : Nat) : Int) ∈ l) ∧ l.length = n
instance (l : List Int) (n : Nat) : Decidable (onto1 l n) := by unfold onto1; infer_instance

/-- One map, then another. -/
def cmpl (p q : List Int) : List Int := p.map fun x => q.getD x.toNat 0

end Go.Proofs.YtjbfkdaodfdpcaaDoor

/-
  Walks: rows of yes and no; the ring of so many things. Conditions: none.
-/
set_option linter.all false
namespace Go.Proofs.YtjbfkdaodfdpcaaDoor
open Go.Pv

/-- A row of yes and no. -/
def hbl (n : Nat) (g : Nat → Bool) : List PV := (List.range n).map fun i => .bool (g i)
def ixb (n : Nat) (g : Nat → Bool) : Int := match fst' (fun i => !g i) n with | some i => (i : Int) | none => -1
end Go.Proofs.YtjbfkdaodfdpcaaDoor

/-
  The semidirect product of two groups: plain laws, with no program in sight. Conditions: none.
-/
set_option linter.all false
namespace Go.Proofs.YtjbfkdaodfdpcaaDoor
open Go.Pv

/-- A pair's product: the second acts on the other's first. -/
def smi (n' : Nat) (f f' al : Nat → Nat → Nat) (a b : Nat) : Nat := f (a / n') (al (a % n') (b / n')) * n' + f' (a % n') (b % n')

structure Acts (n n' : Nat) (f f' al : Nat → Nat → Nat) : Prop where
  lt : ∀ x i, x < n' → i < n → al x i < n
  hom : ∀ x i j, x < n' → i < n → j < n → al x (f i j) = f (al x i) (al x j)
  onto : ∀ x i, x < n' → i < n → ∃ j, j < n ∧ al x j = i
  mul : ∀ x y i, x < n' → y < n' → i < n → al (f' x y) i = al x (al y i)

section
variable {n n' e e' : Nat} {f f' al : Nat → Nat → Nat}

theorem Acts.one (A : Acts n n' f f' al) (G' : Grp n' f' e') {i : Nat} (hi : i < n) : al e' i = i := by
  obtain ⟨j, hj, rfl⟩ := A.onto e' i G'.el hi
  rw [← A.mul e' e' j G'.el G'.el hj, G'.one_l e' G'.el]
theorem Acts.el (A : Acts n n' f f' al) (G : Grp n f e) {x : Nat} (hx : x < n') : al x e = e := by
  have h1 := A.lt x e hx G.el
  have h2 := A.hom x e e hx G.el G.el
  rw [G.one_l e G.el] at h2
  exact (G.idem h1).1 h2.symm

end
end Go.Proofs.YtjbfkdaodfdpcaaDoor

/-
  Walks: the ring of so many things; tables by a rule. Conditions: none.
-/
set_option linter.all false
namespace Go.Proofs.YtjbfkdaodfdpcaaDoor
open Go.Pv

theorem ringOf_c (n : Nat) (h1 : 1 ≤ n) (hn : n ≤ 60) : FnC Tryd.prog 93 [.int .i64 n] (gp n (tbl (fun a b => (((a + b) % n : Nat) : Int)) n)) := by
  have hsq := sq_le hn
  have hlen := tbr_len (fun a b => (((a + b) % n : Nat) : Int)) n
  refine fnc_of tab_ok Tryd.func93 rfl (by kernel_rfl) (by rw [Tryd.ntmps93]; exact Nat.le_add_left 1 _) ?_; rw [Tryd.ntmps93]
  refine qm ?_
  refine hk_region fun K hK => runs_eval tab_ok ?_
  simp only [ev0, evA, evB, evP, fl, gp, tab, simprocAttr, reduceCtorEq, reduceIte]
  refine fin_run ?_ (hK _ ?_) <;> clear hK <;> clear K
  · (first | exact trivial | omega | (simp only [In64] at *; omega) | (simp [In64] at *; omega) | (simp_all; done) | skip)
  refine qa (qm ?_)
  refine hk_region fun K hK => runs_eval tab_ok ?_
  simp only [ev0, evA, evB, evP, fl, gp, tab, simprocAttr, reduceCtorEq, reduceIte]
  refine fin_run ?_ (hK _ ?_) <;> clear hK <;> clear K
  · (first | exact trivial | omega | (simp only [In64] at *; omega) | (simp [In64] at *; omega) | (simp_all; done) | skip)
  refine qa (qm (qm ?_))
  refine hk_own0c 1 1 rfl rfl ?_
  simp only [hset, List.cons_append, List.nil_append, List.set, List.length_cons, List.length_nil]
  refine hk_region fun K hK => runs_eval tab_ok ?_
  simp only [ev0, evA, evB, evP, fl, gp, tab, simprocAttr, reduceCtorEq, reduceIte]
  refine fin_run trivial (hK _ ?_) <;> clear hK <;> clear K
  refine qa (ql ?_)
  refine hk_loop (ι := Nat) (fun a => ⟨29, [(0, .p (.int .i64 n)), (2, .ptr 0 0), (3, .ptr 1 0), (4, .p (.int .i64 a))], [.own [.p (.int .i64 0), .p .nil], .own [.p (.int .i64 n), .sl 2 0 (tbr (fun a b => (((a + b) % n : Nat) : Int)) n (a * n)).length], .own (ol (tbr (fun a b => (((a + b) % n : Nat) : Int)) n (a * n)))]⟩) (fun a => a ≤ n) (fun a => n - a) 0 (Nat.zero_le _) [0, 1, 2] (by rw [Nat.zero_mul]; simp only [leq, leA, ev0, evA, evB, evP, fl, gp, tab, simprocAttr, reduceCtorEq, reduceIte] <;> simp [tbr, rg, ol_nil]) fun a ha => ?_
  refine qm (qm ?_)
  refine hk_region fun K hK => runs_eval tab_ok ?_
  simp only [ev0, evA, evB, evP, fl, gp, tab, simprocAttr, reduceCtorEq, reduceIte]
  refine fin_run trivial (hK _ ?_) <;> clear hK <;> clear K
  refine qa ?_
  refine hk_cond rfl (fun hC1 => ?_) (fun hC1 => ?_)
  · (try simp only [nhs] at hC1)
    have hal : a < n := by omega
    refine qh (qa (qm (ql (qm ?_))))
    refine hk_region fun K hK => runs_eval tab_ok ?_
    simp only [ev0, evA, evB, evP, fl, gp, tab, simprocAttr, reduceCtorEq, reduceIte]
    refine fin_run trivial (hK _ ?_) <;> clear hK <;> clear K
    refine qa (ql ?_)
    refine hk_loop (ι := Nat) (fun b => ⟨29, [(0, .p (.int .i64 n)), (2, .ptr 0 0), (3, .ptr 1 0), (4, .p (.int .i64 a)), (5, .p (.int .i64 b))], [.own [.p (.int .i64 0), .p .nil], .own [.p (.int .i64 n), .sl 2 0 (tbr (fun a b => (((a + b) % n : Nat) : Int)) n (a * n + b)).length], .own (ol (tbr (fun a b => (((a + b) % n : Nat) : Int)) n (a * n + b)))]⟩) (fun b => b ≤ n) (fun b => n - b) 0 (Nat.zero_le _) [0, 1, 2] (by rw [Nat.add_zero]; simp only [leq, leA, ev0, evA, evB, evP, fl, gp, tab, simprocAttr, reduceCtorEq, reduceIte] <;> trivial) fun b hb => ?_
    refine qm (qm ?_)
    refine hk_region fun K hK => runs_eval tab_ok ?_
    simp only [ev0, evA, evB, evP, fl, gp, tab, simprocAttr, reduceCtorEq, reduceIte]
    refine fin_run trivial (hK _ ?_) <;> clear hK <;> clear K
    refine qa ?_
    refine hk_cond rfl (fun hC2 => ?_) (fun hC2 => ?_)
    · (try simp only [nhs] at hC2)
      have hbl : b < n := by omega
      have hat := at_lt hal hbl
      have hl := hlen (a * n + b)
      have hab : (a : Int) + (b : Int) = ((a + b : Nat) : Int) := rfl
      refine qh (qa (qm (ql ?_)))
      refine hk_draw mixed (by kernel_rfl) fun K hK => runs_eval tab_ok ?_
      simp only [ev0, evA, evB, evP, fl, gp, tab, simprocAttr, reduceCtorEq, reduceIte, hab, tm_nat]
      refine fin_run ?_ (hK _ ?_) <;> clear hK <;> clear K
      · (first | exact trivial | omega | (simp only [In64] at *; omega) | (simp [In64] at *; omega) | (simp_all; done) | skip)
      refine qd (qa ?_)
      refine hk_region fun K hK => runs_eval tab_ok ?_
      simp only [ev0, evA, evB, evP, fl, gp, tab, simprocAttr, reduceCtorEq, reduceIte]
      refine fin_run ?_ (hK _ ?_) <;> clear hK <;> clear K
      · (first | exact trivial | omega | (simp only [In64] at *; omega) | (simp [In64] at *; omega) | (simp_all; done) | skip)
      refine qa ?_
      refine ⟨b + 1, [0, 1, 3], by omega, by omega, ?_⟩
      rw [tbr_succ _ hbl]
      simp only [leq, leA, ev0, evA, evB, evP, fl, gp, tab, simprocAttr, reduceCtorEq, reduceIte] <;> first | trivial | omega
    · (try simp only [nhs] at hC2)
      have hbn : b = n := by omega
      refine qj (qc (qc (qf (qd (qa ?_)))))
      refine hk_region fun K hK => runs_eval tab_ok ?_
      simp only [ev0, evA, evB, evP, fl, gp, tab, simprocAttr, reduceCtorEq, reduceIte]
      refine fin_run ?_ (hK _ ?_) <;> clear hK <;> clear K
      · (first | exact trivial | omega | (simp only [In64] at *; omega) | (simp [In64] at *; omega) | (simp_all; done) | skip)
      refine qa ?_
      refine ⟨a + 1, [0, 1, 2], by omega, by omega, ?_⟩
      rw [hbn, show (a + 1) * n = a * n + n by rw [Nat.add_mul, Nat.one_mul]]
      simp only [leq, leA, ev0, evA, evB, evP, fl, gp, tab, simprocAttr, reduceCtorEq, reduceIte] <;> first | trivial | omega
  · (try simp only [nhs] at hC1)
    have han : a = n := by omega
    refine qj (qc (qc (qf (qa (qm ?_)))))
    refine hk_region fun K hK => runs_eval tab_ok ?_
    simp only [ev0, evA, evB, evP, fl, gp, tab, simprocAttr, reduceCtorEq, reduceIte]
    refine fin_run ?_ (hK _ ?_) <;> clear hK <;> clear K
    · (first | exact trivial | omega | (simp only [In64] at *; omega) | (simp [In64] at *; omega) | (simp_all; done) | skip)
    refine qa (qk ?_)
    simp only [Tryd.results93, enA, ev0, evA, evB, evP, fl, gp, tab, simprocAttr, reduceCtorEq, reduceIte]
    all_goals (simp [han, tbl])
end Go.Proofs.YtjbfkdaodfdpcaaDoor

/-
  Semidirect products: the fault, and what no fault says. Conditions: none.
-/
set_option linter.all false
namespace Go.Proofs.YtjbfkdaodfdpcaaDoor
open Go.Pv

/-- The code of a row's fault: a map of the group to itself that is one to one. -/
def rwc (N : Int) (m l : List Int) : Int := if ¬ (homf N m N m l).1 = 0 then (homf N m N m l).1 else if ¬ onto1 l N.toNat then 10 else 0
def mgd (m' : List Int) (n' : Nat) (ls : List (List Int)) (x : Nat) : Prop := ∀ y, y < n' → ls.getD (op m' n' x y) [] = cmpl (ls.getD y []) (ls.getD x [])
instance (m' : List Int) (n' : Nat) (ls : List (List Int)) (x : Nat) : Decidable (mgd m' n' ls x) := by unfold mgd; infer_instance
def psf2 (m' : List Int) (ls : List (List Int)) (n n' : Nat) : Int × Int :=
  match fst' (fun x => decide (¬ mgd m' n' ls x)) n' with
  | some x => (7, (x : Int))
  | none => if n * n' > 60 then (9, 0) else (0, 0)
/-- THE FAULT of a group that acts on a group. -/
def psf (N : Int) (m : List Int) (N' : Int) (m' : List Int) (ls : List (List Int)) : Int × Int :=
  if ¬ (tg N m N' m').1 = 0 then tg N m N' m'
  else if ¬ (ls.length : Int) = N' then (8, 0)
  else match fst' (fun i => decide (¬ rwc N m (ls.getD i []) = 0)) ls.length with
    | some i => (rwc N m (ls.getD i []), (i : Int))
    | none => psf2 m' ls N.toNat N'.toNat

section
variable {N N' : Int} {m m' : List Int} {ls : List (List Int)} {n n' : Nat}
/-- What acts, as a rule. -/
def alp (ls : List (List Int)) (x i : Nat) : Nat := hv (ls.getD x []) i
end
end Go.Proofs.YtjbfkdaodfdpcaaDoor

/-
  Walks: prod.Semi. Conditions: none.
-/
set_option linter.all false
namespace Go.Proofs.YtjbfkdaodfdpcaaDoor
open Go.Pv

/-- The group that acts on a group makes. -/
def sg (n n' : Nat) (m m' : List Int) (ls : List (List Int)) : List Int := tbl (fun a b => (smi n' (op m n) (op m' n') (alp ls) a b : Nat)) (n * n')
def sgr (N : Int) (m : List Int) (N' : Int) (m' : List Int) (ls : List (List Int)) : PV := if (psf N m N' m' ls).1 = 0 then gp (N.toNat * N'.toNat : Nat) (sg N.toNat N'.toNat m m' ls) else gp 0 []

def hits (l : List Int) (k i : Nat) : Bool := decide (((i : Nat) : Int) ∈ l.take k)
def sgm (n n' : Nat) (m m' : List Int) (ls : List (List Int)) (a b : Nat) : Int := (smi n' (op m n) (op m' n') (alp ls) a b : Nat)

end Go.Proofs.YtjbfkdaodfdpcaaDoor

/-
  Complements of a normal part: the program's, the document's. Conditions: none.
-/
set_option linter.all false
namespace Go.Proofs.YtjbfkdaodfdpcaaDoor
open Go.Pv

section
variable {n e : Nat} {m : List Int}
/-- The complements among the first ones. -/
def cpl (n : Nat) (p : Nat → Bool) (SL : List Nat) (i : Nat) : List Nat := (SL.take i).filter (cpb n p)
theorem cpl_len {p : Nat → Bool} {SL : List Nat} {i : Nat} : (cpl n p SL i).length ≤ SL.length :=
  Nat.le_trans (List.length_filter_le _ _) (by rw [List.length_take]; omega)
theorem cpl_t {p : Nat → Bool} {SL : List Nat} {i : Nat} (hi : i < SL.length) (h : cpb n p (SL.getD i 0) = true) : cpl n p SL (i + 1) = cpl n p SL i ++ [SL.getD i 0] := by
  unfold cpl
  rw [List.take_succ_eq_append_getElem hi, List.filter_append]
  have : SL.getD i 0 = SL[i] := by simp [List.getD, List.getElem?_eq_getElem hi]
  rw [this] at h ⊢
  simp [List.filter_cons, h]
theorem cpl_f {p : Nat → Bool} {SL : List Nat} {i : Nat} (hi : i < SL.length) (h : cpb n p (SL.getD i 0) = false) : cpl n p SL (i + 1) = cpl n p SL i := by
  unfold cpl
  rw [List.take_succ_eq_append_getElem hi, List.filter_append]
  have : SL.getD i 0 = SL[i] := by simp [List.getD, List.getElem?_eq_getElem hi]
  rw [this] at h
  simp [List.filter_cons, h]
theorem cpl_all {p : Nat → Bool} {SL : List Nat} : cpl n p SL SL.length = SL.filter (cpb n p) := by unfold cpl; rw [List.take_length]
theorem sll_put (L : List Nat) (x : Nat) : sll (L ++ [x]) = sll L ++ [stl x] := by simp [sll]

set_option maxRecDepth 20000 in
theorem compl_ok (h : GT n m n e) (hn : n ≤ 24) {SL : List Nat} (hS : AllS n (op m n) e SL) {p : Nat → Bool} (hp : Sub n (op m n) e p) (hN : Nml n (op m n) e p) : FnC Tryd.prog 37 [gp n m, .list (il (thl n p))] (.tup [.list (ll (sll (SL.filter (cpb n p)))), fl (0, 0)]) := by
  have G := h.2.2
  have hb := h.2.1.big
  have hSl := hS.len hn
  have lp := thl_le n p
  have ep : (thl n p).length = (mem n p).length := thl_len _ _
  refine fnc_of tab_ok Tryd.func37 rfl (by kernel_rfl) (by rw [Tryd.ntmps37]; exact Nat.le_add_left 2 _) ?_; rw [Tryd.ntmps37]
  refine qm ?_
  refine hk_region fun K hK => runs_eval tab_ok ?_
  simp only [ev0, evA, evB, evP, fl, gp, tab, simprocAttr, reduceCtorEq, reduceIte]
  refine fin_run ?_ (hK _ ?_) <;> clear hK <;> clear K
  · (first | exact trivial | omega | (simp only [In64] at *; omega) | (simp [In64] at *; omega) | (simp_all; done) | skip)
  refine qa (qm ?_)
  refine hk_region fun K hK => runs_eval tab_ok ?_
  simp only [ev0, evA, evB, evP, fl, gp, tab, simprocAttr, reduceCtorEq, reduceIte]
  refine fin_stop trivial (runs_call (normal_ok h p hp true (by simp [hN])) rfl rfl rfl (by simp only [dstOk, Nat.reduceLT]) (by repeat (first | exact trivial | constructor)) (runs_eval tab_ok ?_))
  simp only [ev0, evA, evB, evP, fl, gp, tab, simprocAttr, reduceCtorEq, reduceIte]
  refine fin_run ?_ (hK _ ?_) <;> clear hK <;> clear K
  · (first | exact trivial | omega | (simp only [In64] at *; omega) | (simp [In64] at *; omega) | (simp_all; done) | skip)
  refine qa (qm (qm ?_))
  refine hk_region fun K hK => runs_eval tab_ok ?_
  simp only [ev0, evA, evB, evP, fl, gp, tab, simprocAttr, reduceCtorEq, reduceIte]
  refine fin_run ?_ (hK _ ?_) <;> clear hK <;> clear K
  · (first | exact trivial | omega | (simp only [In64] at *; omega) | (simp [In64] at *; omega) | (simp_all; done) | skip)
  refine qa ?_
  refine hk_cond rfl (fun hC1 => ?_) (fun hC1 => ?_)
  · cases hC1
  · (try simp only [nhs] at hC1)
    refine qh (qa (qm (qm ?_)))
    refine hk_region fun K hK => runs_eval tab_ok ?_
    simp only [ev0, evA, evB, evP, fl, gp, tab, simprocAttr, reduceCtorEq, reduceIte]
    refine fin_run trivial (hK _ ?_) <;> clear hK <;> clear K
    refine qa ?_
    refine hk_cond rfl (fun hC2 => ?_) (fun hC2 => ?_)
    · cases hC2
    · (try simp only [nhs] at hC2)
      refine qh (qa (qm (qm ?_)))
      refine hk_region fun K hK => runs_eval tab_ok ?_
      simp only [ev0, evA, evB, evP, fl, gp, tab, simprocAttr, reduceCtorEq, reduceIte]
      refine fin_run ?_ (hK _ ?_) <;> clear hK <;> clear K
      · (first | exact trivial | omega | (simp only [In64] at *; omega) | (simp [In64] at *; omega) | (simp_all; done) | skip)
      refine qa ?_
      refine hk_cond rfl (fun hC3 => ?_) (fun hC3 => ?_)
      · (try simp only [nhs] at hC3)
        omega
      · (try simp only [nhs] at hC3)
        refine qh (qa (qm ?_))
        refine hk_region fun K hK => runs_eval tab_ok ?_
        simp only [ev0, evA, evB, evP, fl, gp, tab, simprocAttr, reduceCtorEq, reduceIte]
        refine fin_run trivial (hK _ ?_) <;> clear hK <;> clear K
        refine qa (qm (qm ?_))
        refine hk_own0 8 rfl ?_
        refine hk_region fun K hK => runs_eval tab_ok ?_
        simp only [ev0, evA, evB, evP, fl, gp, tab, simprocAttr, reduceCtorEq, reduceIte, ul_length]
        refine fin_stop trivial (runs_call (allOf_c h hn hS) rfl rfl rfl (by simp only [dstOk, Nat.reduceLT]) (by repeat (first | exact trivial | constructor)) (runs_eval tab_ok ?_))
        simp only [ev0, evA, evB, evP, fl, gp, tab, simprocAttr, reduceCtorEq, reduceIte, ul_length]
        refine fin_run ?_ (hK _ ?_) <;> clear hK <;> clear K
        · (first | exact trivial | omega | (simp only [In64] at *; omega) | (simp [In64] at *; omega) | (simp_all; done) | skip)
        refine qa (ql ?_)
        refine hk_loop (ι := Nat) (fun i => ⟨62, [(1, .p (.list (il (thl n p)))), (2, .ptr 0 0), (5, .ptr 1 0), (8, .sl 2 0 (sll (cpl n p SL i)).length), (30, .p (.list (ul SL))), (31, .p (.int .i64 SL.length)), (32, .p (.int .i64 i))], [.own [.p (.int .i64 n), .p (.list (il m))], .own [.p (.int .i64 0), .p (.int .i64 0)], .own (opl (ll (sll (cpl n p SL i))))]⟩) (fun i => i ≤ SL.length) (fun i => SL.length - i) 0 (Nat.zero_le _) [0, 1, 3] (by simp only [leq, leA, ev0, evA, evB, evP, fl, gp, tab, simprocAttr, reduceCtorEq, reduceIte, ll_takeL] <;> first | trivial | exact ⟨rfl, rfl⟩ | simp [sll, cpl]) fun i hi => ?_
        refine qm ?_
        refine hk_region fun K hK => runs_eval tab_ok ?_
        simp only [ev0, evA, evB, evP, fl, gp, tab, simprocAttr, reduceCtorEq, reduceIte]
        refine fin_run trivial (hK _ ?_) <;> clear hK <;> clear K
        refine qa (qm ?_)
        refine hk_cond rfl (fun hC4 => ?_) (fun hC4 => ?_)
        · (try simp only [nhs] at hC4)
          have hlt : i < SL.length := by omega
          obtain ⟨q, hq, hxq⟩ := hS.subs _ (getD_memN hlt)
          have hq64 := bo_lt64 hb q
          have hst := stl_bo hb q
          have lq := thl_le n q
          have eq' : (thl n q).length = (mem n q).length := thl_len _ _
          have hl1 := sll_len (cpl n p SL i)
          have hl2 := cpl_len (n := n) (p := p) (SL := SL) (i := i)
          have hll := ll_length (sll (cpl n p SL i))
          have hmul : (thl n q).length * (thl n p).length ≤ 60 * 60 := Nat.mul_le_mul (by omega) (by omega)
          have hmi : ((thl n q).length : Int) * ((thl n p).length : Int) = (((thl n q).length * (thl n p).length : Nat) : Int) := by rw [Int.natCast_mul]
          have hcb := cpb_bo (n := n) (p := p) (q := q)
          rw [← eq', ← ep, ← hxq] at hcb
          refine qh (qa (qm (ql (qm ?_))))
          refine hk_region fun K hK => runs_eval tab_ok ?_
          simp only [ev0, evA, evB, evP, fl, gp, tab, simprocAttr, reduceCtorEq, reduceIte, ul_get hlt, hxq, ul_length]
          refine fin_run ?_ (hK _ ?_) <;> clear hK <;> clear K
          · (first | exact trivial | omega | (simp only [In64] at *; omega) | (simp [In64] at *; omega) | (simp_all; done) | skip)
          refine qa (qm ?_)
          refine hk_region fun K hK => runs_eval tab_ok ?_
          simp only [ev0, evA, evB, evP, fl, gp, tab, simprocAttr, reduceCtorEq, reduceIte]
          refine fin_stop trivial (runs_call (list_s (bo n q) hq64) rfl rfl rfl (by simp only [dstOk, Nat.reduceLT]) (by repeat (first | exact trivial | constructor)) (runs_eval tab_ok ?_))
          simp only [ev0, evA, evB, evP, fl, gp, tab, simprocAttr, reduceCtorEq, reduceIte]
          refine fin_run trivial (hK _ ?_) <;> clear hK <;> clear K
          refine qa (qm ?_)
          by_cases k1 : (thl n q).length * (thl n p).length = n
          · refine hk_draw2 mixed fun K hK => runs2_eval tab_ok ?_
            simp only [evD, ev0, evA, evB, evP, fl, gp, tab, simprocAttr, reduceCtorEq, reduceIte, il_length, hst, hmi, decide_eq_true (show (((thl n q).length * (thl n p).length : Nat) : Int) = (n : Int) by omega), msk_thl, bv_and hq64 (bo_lt64 hb p), bo_and]
            refine fin2_stop ?_ (runs2_call (of_s (thl n p) (by omega) (thl_rng hb p)) rfl rfl rfl rfl (by simp only [dstOk, Nat.reduceLT]) (by repeat (first | exact trivial | constructor)) (runs2_eval tab_ok ?_))
            · (first | exact trivial | omega | (simp only [In64] at *; omega) | (simp [In64] at *; omega) | (simp_all; done) | skip)
            simp only [evD, ev0, evA, evB, evP, fl, gp, tab, simprocAttr, reduceCtorEq, reduceIte, il_length, hst, hmi, decide_eq_true (show (((thl n q).length * (thl n p).length : Nat) : Int) = (n : Int) by omega), msk_thl, bv_and hq64 (bo_lt64 hb p), bo_and]
            refine fin2_stop trivial (runs2_call (grow_c h 0 (Nat.pow_pos (by omega)) (onp e) onp_gen) rfl rfl rfl rfl (by simp only [dstOk, Nat.reduceLT]) (by repeat (first | exact trivial | constructor)) (runs2_eval tab_ok ?_))
            simp only [evD, ev0, evA, evB, evP, fl, gp, tab, simprocAttr, reduceCtorEq, reduceIte, il_length, hst, hmi, decide_eq_true (show (((thl n q).length * (thl n p).length : Nat) : Int) = (n : Int) by omega), msk_thl, bv_and hq64 (bo_lt64 hb p), bo_and]
            refine fin2_run ?_ (hK _ _ (by first | kernel_rfl | rfl) ?_) <;> clear hK <;> clear K
            · first | exact trivial | (simp only [In64]; omega)
            refine qa ?_
            refine hk_cond rfl (fun hC5 => ?_) (fun hC5 => ?_)
            · (try simp only [nhs] at hC5)
              have hct : cpb n p (SL.getD i 0) = true := by
                rw [hcb, decide_eq_true_eq]
                exact ⟨k1, (G.meet_one hq hp).2 (by omega)⟩
              refine hk_region fun K hK => runs_eval tab_ok ?_
              simp only [ev0, evA, evB, evP, fl, gp, tab, simprocAttr, reduceCtorEq, reduceIte, ll_takeL, oll_ok, ll_snoc]
              refine fin_run ?_ (hK _ ?_) <;> clear hK <;> clear K
              · first | (simp [cellOk, PV.one]; done) | (simp [cellOk, PV.one]; omega)
              refine qd (qa ?_)
              refine hk_region fun K hK => runs_eval tab_ok ?_
              simp only [ev0, evA, evB, evP, fl, gp, tab, simprocAttr, reduceCtorEq, reduceIte]
              refine fin_run ?_ (hK _ ?_) <;> clear hK <;> clear K
              · (first | exact trivial | omega | (simp only [In64] at *; omega) | (simp [In64] at *; omega) | (simp_all; done) | skip)
              refine qa ?_
              refine ⟨i + 1, [0, 1, 3], by omega, by omega, ?_⟩
              rw [cpl_t hlt hct, hxq, sll_put, hst]
              simp only [leq, leA, ev0, evA, evB, evP, fl, gp, tab, simprocAttr, reduceCtorEq, reduceIte, ll_takeL, ll_snoc, ll_takeS] <;> first | trivial | omega | (simp [ll]; done)
            · (try simp only [nhs] at hC5)
              have hcf : cpb n p (SL.getD i 0) = false := by
                rw [hcb, decide_eq_false_iff_not]
                exact fun hh => hC5 (by have := (G.meet_one hq hp).1 hh.2; omega)
              refine qh (qd (qa ?_))
              refine hk_region fun K hK => runs_eval tab_ok ?_
              simp only [ev0, evA, evB, evP, fl, gp, tab, simprocAttr, reduceCtorEq, reduceIte]
              refine fin_run ?_ (hK _ ?_) <;> clear hK <;> clear K
              · (first | exact trivial | omega | (simp only [In64] at *; omega) | (simp [In64] at *; omega) | (simp_all; done) | skip)
              refine qa ?_
              refine ⟨i + 1, [0, 1, 2], by omega, by omega, ?_⟩
              rw [cpl_f hlt hcf]
              simp only [leq, leA, ev0, evA, evB, evP, fl, gp, tab, simprocAttr, reduceCtorEq, reduceIte, ll_takeL] <;> first | trivial | omega
          · refine hk_draw2 mixed fun K hK => runs2_eval tab_ok ?_
            simp only [evD, ev0, evA, evB, evP, fl, gp, tab, simprocAttr, reduceCtorEq, reduceIte, il_length, hst, hmi, decide_eq_false (show ¬ (((thl n q).length * (thl n p).length : Nat) : Int) = (n : Int) by omega)]
            refine fin2_run ?_ (hK _ _ (by first | kernel_rfl | rfl) ?_) <;> clear hK <;> clear K
            · first | exact trivial | (simp only [In64]; omega)
            refine qa ?_
            refine hk_cond rfl (fun hC5 => ?_) (fun hC5 => ?_)
            · cases hC5
            · have hcf : cpb n p (SL.getD i 0) = false := by rw [hcb, decide_eq_false_iff_not]; exact fun hh => k1 hh.1
              refine qh (qd (qa ?_))
              refine hk_region fun K hK => runs_eval tab_ok ?_
              simp only [ev0, evA, evB, evP, fl, gp, tab, simprocAttr, reduceCtorEq, reduceIte]
              refine fin_run ?_ (hK _ ?_) <;> clear hK <;> clear K
              · (first | exact trivial | omega | (simp only [In64] at *; omega) | (simp [In64] at *; omega) | (simp_all; done) | skip)
              refine qa ?_
              refine ⟨i + 1, [0, 1, 2], by omega, by omega, ?_⟩
              rw [cpl_f hlt hcf]
              simp only [leq, leA, ev0, evA, evB, evP, fl, gp, tab, simprocAttr, reduceCtorEq, reduceIte, ll_takeL] <;> first | trivial | omega
        · (try simp only [nhs] at hC4)
          have hin : i = SL.length := by omega
          rw [hin, cpl_all]
          refine qj (qc (qc (qf (qa (qm ?_)))))
          rw [← ll_length (sll (SL.filter (cpb n p)))]
          refine hk_sealp 8 2 (ll_all _) rfl rfl ?_
          refine hk_region fun K hK => runs_eval tab_ok ?_
          simp only [ev0, evA, evB, evP, fl, gp, tab, simprocAttr, reduceCtorEq, reduceIte]
          refine fin_run ?_ (hK _ ?_) <;> clear hK <;> clear K
          · (first | exact trivial | omega | (simp only [In64] at *; omega) | (simp [In64] at *; omega) | (simp_all; done) | skip)
          refine qa (qk ?_)
          simp only [Tryd.results37, enA, ev0, evA, evB, evP, fl, gp, tab, simprocAttr, reduceCtorEq, reduceIte]
          all_goals ((first | exact rfl | exact ⟨rfl, rfl⟩ | exact ⟨rfl, rfl, rfl⟩ | exact ⟨trivial, rfl⟩ | exact ⟨Nat.le_refl _, rfl⟩ | trivial | (simp; done)))
end
end Go.Proofs.YtjbfkdaodfdpcaaDoor

/-
  Rows of equations modulo a prime, reduced as they come: what is reckoned. Conditions: none.
-/
set_option linter.all false
namespace Go.Proofs.YtjbfkdaodfdpcaaDoor
open Go.Pv

/-- The primes that are let in. -/
def pr (p : Nat) : Prop := p = 2 ∨ p = 3 ∨ p = 5 ∨ p = 7
instance (p : Nat) : Decidable (pr p) := by unfold pr; infer_instance
theorem pr.le {p : Nat} (h : pr p) : 2 ≤ p ∧ p ≤ 7 := by unfold pr at h; omega

/-- A row, written anew from i to j. -/
def updR (f : Nat → Int) (i j : Nat) (u : List Int) : List Int := (List.range u.length).map fun t => if i ≤ t ∧ t < j then f t else u.getD t 0

theorem updR_len (f : Nat → Int) (i j : Nat) (u : List Int) : (updR f i j u).length = u.length := by simp [updR]
theorem updR_get {f : Nat → Int} {i j t : Nat} {u : List Int} (h : t < u.length) : (updR f i j u).getD t 0 = if i ≤ t ∧ t < j then f t else u.getD t 0 := by
  simp [updR, List.getD, List.getElem?_map, List.getElem?_range h]
theorem updR_start (f : Nat → Int) (i : Nat) (u : List Int) : updR f i i u = u := by
  apply List.ext_getElem (by rw [updR_len])
  intro t h1 h2
  have := updR_get (f := f) (i := i) (j := i) (t := t) (u := u) h2
  rw [if_neg (by omega)] at this
  simpa [List.getD, List.getElem?_eq_getElem h1, List.getElem?_eq_getElem h2] using this
theorem updR_set {f : Nat → Int} {i j : Nat} {u : List Int} (hi : i ≤ j) (hj : j < u.length) : (updR f i j u).set j (f j) = updR f i (j + 1) u := by
  apply List.ext_getElem (by simp [updR_len])
  intro t h1 h2
  have h3 : t < u.length := by simpa [updR_len] using h2
  have e1 := updR_get (f := f) (i := i) (j := j) (t := t) (u := u) h3
  have e2 := updR_get (f := f) (i := i) (j := j + 1) (t := t) (u := u) h3
  simp only [List.getD, List.getElem?_eq_getElem (show t < (updR f i j u).length by rw [updR_len]; exact h3), List.getElem?_eq_getElem h2, Option.getD_some] at e1 e2
  rw [e2, List.getElem_set]
  by_cases e : j = t
  · subst e
    rw [if_pos rfl, if_pos (by omega)]
  · rw [if_neg e, e1]
    by_cases h4 : i ≤ t ∧ t < j
    · rw [if_pos h4, if_pos (by omega)]
    · rw [if_neg h4, if_neg (by omega)]

/-- All that is in a row is between 0 and p. -/
def rng (p : Nat) (u : List Int) : Prop := ∀ t, t < u.length → 0 ≤ u.getD t 0 ∧ u.getD t 0 < p

theorem updR_rng {p : Nat} {f : Nat → Int} {i j : Nat} {u : List Int} (hf : ∀ t, i ≤ t → t < j → 0 ≤ f t ∧ f t < p) (hu : ∀ t, t < u.length → ¬ (i ≤ t ∧ t < j) → 0 ≤ u.getD t 0 ∧ u.getD t 0 < p) : rng p (updR f i j u) := by
  intro t ht
  rw [updR_len] at ht
  rw [updR_get ht]
  split
  · rename_i h; exact hf t h.1 h.2
  · rename_i h; exact hu t ht h

/-- The least number that makes 1 of another. -/
def inv (p : Nat) (x : Int) : Nat := ((List.range p).find? fun k => decide ((k * x.toNat) % p = 1)).getD 0

theorem inv_spec {p : Nat} {x : Int} (hp : pr p) (h0 : 0 < x) (h1 : x < p) : 1 ≤ inv p x ∧ inv p x < p ∧ ((inv p x : Int) * x) % p = 1 ∧ ∀ k : Nat, k < inv p x → ((k : Int) * x) % p ≠ 1 := by
  have key : ∀ p ∈ [2, 3, 5, 7], ∀ x < p, 0 < x → 1 ≤ inv p (x : Nat) ∧ inv p (x : Nat) < p ∧ (inv p (x : Nat) * x) % p = 1 ∧ ∀ k < inv p (x : Nat), (k * x) % p ≠ 1 := by decide
  obtain ⟨y, rfl⟩ : ∃ y : Nat, x = (y : Int) := ⟨x.toNat, by omega⟩
  obtain ⟨a1, a2, a3, a4⟩ := key p (by unfold pr at hp; simp; omega) y (by omega) (by omega)
  refine ⟨a1, a2, ?_, fun k hk => ?_⟩
  · have : ((inv p (y : Nat) : Int) * y) % p = ((inv p (y : Nat) * y % p : Nat) : Int) := by push_cast; rfl
    rw [this, a3]; rfl
  · have : ((k : Int) * y) % p = ((k * y % p : Nat) : Int) := by push_cast; rfl
    rw [this]
    have := a4 k hk
    omega

/-- The rows that are there, by where they begin. -/
def dOf : List (Nat × List Int) → Int → Bool
  | [] => fun _ => false
  | e :: L => fun u => u == (e.1 : Int) || dOf L u
def vOf : List (Nat × List Int) → Int → PV
  | [] => fun _ => default
  | e :: L => fun u => bif u == (e.1 : Int) then .list (il e.2) else vOf L u
def lkp : List (Nat × List Int) → Nat → Option (List Int)
  | [], _ => none
  | e :: L, i => if i = e.1 then some e.2 else lkp L i

theorem dOf_iff : ∀ {L : List (Nat × List Int)} {i : Nat}, dOf L (i : Int) = (lkp L i).isSome
  | [], i => rfl
  | e :: L, i => by
    simp only [dOf, lkp]
    by_cases h : i = e.1
    · rw [if_pos h, h]; simp
    · have : ((i : Int) == (e.1 : Int)) = false := by simp; omega
      rw [if_neg h, this, Bool.false_or, dOf_iff]
theorem vOf_some : ∀ {L : List (Nat × List Int)} {i : Nat} {w : List Int}, lkp L i = some w → vOf L (i : Int) = .list (il w)
  | [], i, w, h => by cases h
  | e :: L, i, w, h => by
    simp only [vOf, lkp] at h ⊢
    by_cases h1 : i = e.1
    · rw [if_pos h1] at h
      cases h
      rw [h1]; simp
    · have : ((i : Int) == (e.1 : Int)) = false := by simp; omega
      rw [if_neg h1] at h
      rw [this, cond_false]; exact vOf_some h

/-- A row without another's multiple. -/
def redAt (p : Nat) (w : List Int) (i : Nat) (u : List Int) : List Int := updR (fun t => (u.getD t 0 - u.getD i 0 * w.getD t 0) % p) i u.length u
def mulAll (p : Nat) (k : Int) (u : List Int) : List Int := updR (fun t => u.getD t 0 * k % p) 0 u.length u
def nrm (p : Nat) (u : List Int) : List Int := updR (fun t => u.getD t 0 % p) 0 u.length u

def scan (p : Nat) (L : List (Nat × List Int)) : Nat → Nat → List Int → List (Nat × List Int) × Bool
  | 0, _, _ => (L, false)
  | m + 1, i, u =>
    if u.getD i 0 = 0 then scan p L m (i + 1) u else
    match lkp L i with
    | none => ((i, mulAll p (inv p (u.getD i 0)) u) :: L, true)
    | some w => scan p L m (i + 1) (redAt p w i u)

def addL (p : Nat) (L : List (Nat × List Int)) (v : List Int) : List (Nat × List Int) × Bool := scan p L v.length 0 (nrm p v)

/-- Rows that are as they should be. -/
structure Ech (p n : Nat) (L : List (Nat × List Int)) : Prop where
  keys : (L.map (·.1)).Nodup
  lt : ∀ e ∈ L, e.1 < n
  len : ∀ e ∈ L, e.2.length = n
  rg : ∀ e ∈ L, rng p e.2
  one : ∀ e ∈ L, e.2.getD e.1 0 = 1
  zero : ∀ e ∈ L, ∀ j, j < e.1 → e.2.getD j 0 = 0

theorem lkp_mem : ∀ {L : List (Nat × List Int)} {i : Nat} {w : List Int}, lkp L i = some w → (i, w) ∈ L
  | [], i, w, h => by cases h
  | e :: L, i, w, h => by
    simp only [lkp] at h
    by_cases h1 : i = e.1
    · rw [if_pos h1] at h; cases h; rw [h1]; simp
    · rw [if_neg h1] at h; exact List.mem_cons_of_mem _ (lkp_mem h)
theorem lkp_none : ∀ {L : List (Nat × List Int)} {i : Nat}, lkp L i = none → ∀ e ∈ L, e.1 ≠ i
  | [], i, _ => by simp
  | e :: L, i, h => by
    simp only [lkp] at h
    by_cases h1 : i = e.1
    · rw [if_pos h1] at h; cases h
    · rw [if_neg h1] at h
      intro e' he'
      rcases List.mem_cons.1 he' with rfl | he'
      · exact fun e => h1 e.symm
      · exact lkp_none h e' he'

theorem emod_rng {p : Nat} (hp : 0 < p) (x : Int) : 0 ≤ x % (p : Int) ∧ x % (p : Int) < p := ⟨Int.emod_nonneg _ (by omega), Int.emod_lt_of_pos _ (by omega)⟩

theorem nrm_rng {p : Nat} (hp : 0 < p) (u : List Int) : rng p (nrm p u) := updR_rng (fun t _ _ => emod_rng hp _) fun t ht h => absurd ⟨Nat.zero_le _, ht⟩ h
theorem mulAll_rng {p : Nat} (hp : 0 < p) (k : Int) (u : List Int) : rng p (mulAll p k u) := updR_rng (fun t _ _ => emod_rng hp _) fun t ht h => absurd ⟨Nat.zero_le _, ht⟩ h
theorem redAt_rng {p : Nat} (hp : 0 < p) {w : List Int} {i : Nat} {u : List Int} (hu : rng p u) : rng p (redAt p w i u) := updR_rng (fun t _ _ => emod_rng hp _) fun t ht _ => hu t ht

/-- What Go's remainder, taken twice, comes to. -/
theorem tmod2 {p : Nat} (hp : 0 < p) (x : Int) : Int.tmod (Int.tmod x p + p) p = x % p := by
  have h1 : Int.tmod x p + p ≥ 0 := by
    have h2 := Int.lt_tmod_of_pos x (show (0 : Int) < p by omega)
    omega
  rw [Int.tmod_eq_emod_of_nonneg h1, Int.add_emod_right]
  have h3 := Int.tmod_def x p
  rw [h3, show x - (p : Int) * x.tdiv p = x + (p : Int) * (-(x.tdiv p)) by rw [Int.mul_neg]; omega, Int.add_mul_emod_self_left]

end Go.Proofs.YtjbfkdaodfdpcaaDoor

/-
  Walks: rows of equations: a new one; a row is added. Conditions: none.
-/
set_option linter.all false
namespace Go.Proofs.YtjbfkdaodfdpcaaDoor
open Go.Pv

theorem mul49 {a x : Int} (h1 : 0 ≤ a) (h2 : a ≤ 7) (h3 : 0 ≤ x) (h4 : x ≤ 7) : 0 ≤ a * x ∧ a * x ≤ 49 :=
  ⟨Int.mul_nonneg h1 h3, Int.le_trans (Int.mul_le_mul h2 h4 h3 (by omega)) (by omega)⟩

theorem newRows_c (p : Nat) : FnM Tryd.prog 142 [.p (.int .i64 p)] [] (.ptr 0 0) [.own [.p (.int .i64 p), .mptr 1], .mp .i64 (dOf []) (vOf [])] := by
  refine fnm_of tab_ok Tryd.func142 rfl (by kernel_rfl) (by rw [Tryd.ntmps142]; exact Nat.le_add_left 1 _) ?_; rw [Tryd.ntmps142]; simp only [ancs, entA, List.length_cons, List.length_nil, List.cons_append, List.nil_append, Nat.reduceAdd, Nat.zero_add]
  refine qm ?_
  refine hk_region fun K hK => runs_eval tab_ok ?_
  simp only [ev0, evA, evB, evP, fl, gp, tab, simprocAttr, reduceCtorEq, reduceIte]
  refine fin_run trivial (hK _ ?_) <;> clear hK <;> clear K
  refine qa (qm ?_)
  refine hk_region fun K hK => runs_eval tab_ok ?_
  simp only [ev0, evA, evB, evP, fl, gp, tab, simprocAttr, reduceCtorEq, reduceIte]
  refine fin_run ?_ (hK _ ?_) <;> clear hK <;> clear K
  · (first | exact trivial | omega | (simp only [In64] at *; omega) | (simp [In64] at *; omega) | (simp_all; done) | skip)
  refine qa (qk ?_)
  simp only [Tryd.results142, PostG, endG, rvsA, rvA, mkTup, ev0, evA, evB, evP, fl, gp, tab, simprocAttr, reduceCtorEq, reduceIte]
  all_goals (refine ⟨[1, 0], rfl, rfl, rfl, by simp, ⟨⟨rfl, rfl⟩, rfl, trivial⟩, trivial⟩)

theorem clone_c (v : List Int) (h0 : v ≠ []) (hl : v.length ≤ 1000000) : FnG Tryd.prog 109 [.list (il v)] (.sl 0 0 v.length) [.own (ol v)] := by
  have hp : 0 < v.length := List.length_pos_iff.2 h0
  refine fng_of tab_ok Tryd.func109 rfl (by kernel_rfl) (by rw [Tryd.ntmps109]; exact Nat.le_add_left 1 _) ?_; rw [Tryd.ntmps109]
  refine qm ?_
  refine hk_region fun K hK => runs_eval tab_ok ?_
  simp only [ev0, evA, evB, evP, fl, gp, tab, simprocAttr, reduceCtorEq, reduceIte]
  refine fin_run trivial (hK _ ?_) <;> clear hK <;> clear K
  refine qa (qm (qm ?_))
  refine hk_region fun K hK => runs_eval tab_ok ?_
  simp only [ev0, evA, evB, evP, fl, gp, tab, simprocAttr, reduceCtorEq, reduceIte]
  refine fin_run ?_ (hK _ ?_) <;> clear hK <;> clear K
  · simp [il, h0]
  refine qa ?_
  refine hk_cond rfl (fun hC1 => ?_) (fun hC1 => ?_)
  · cases hC1
  · (try simp only [nhs] at hC1)
    refine qh (qa (qm ?_))
    refine hk_region fun K hK => runs_eval tab_ok ?_
    simp only [ev0, evA, evB, evP, fl, gp, tab, simprocAttr, reduceCtorEq, reduceIte]
    refine fin_run ?_ (hK _ ?_) <;> clear hK <;> clear K
    · (first | exact trivial | omega | (simp only [In64] at *; omega) | (simp [In64] at *; omega) | (simp_all; done) | skip)
    refine qa (qk ?_)
    simp only [Tryd.results109, PostG, endG, rvsA, rvA, mkTup, ev0, evA, evB, evP, fl, gp, tab, simprocAttr, reduceCtorEq, reduceIte]
    refine ⟨[0], rfl, rfl, rfl, by simp, ⟨⟨?_, ol_sc _ _⟩, trivial⟩, trivial⟩
    rw [ol_ren, take_len]

theorem add_c {p n : Nat} (hp : pr p) (hn : 0 < n) (hn2 : n ≤ 1000) (L : List (Nat × List Int)) (hL : Ech p n L) (v : List Int) (hv : v.length = n) (hb : ∀ t, t < n → -1000 ≤ v.getD t 0 ∧ v.getD t 0 ≤ 1000) :
    FnM Tryd.prog 105 [.ptr 0 0, .p (.list (il v))] [.own [.p (.int .i64 p), .mptr 1], .mp .i64 (dOf L) (vOf L)] (.p (.bool (addL p L v).2)) [.own [.p (.int .i64 p), .mptr 1], .mp .i64 (dOf (addL p L v).1) (vOf (addL p L v).1)] := by
  obtain ⟨hp2, hp7⟩ := hp.le
  have hp0 : 0 < p := by omega
  have hne : v ≠ [] := by intro e; rw [e] at hv; simp at hv; omega
  refine fnm_of tab_ok Tryd.func105 rfl (by kernel_rfl) (by rw [Tryd.ntmps105]; exact Nat.le_add_left 2 _) ?_; rw [Tryd.ntmps105]; simp only [ancs, entA, List.length_cons, List.length_nil, List.cons_append, List.nil_append, Nat.reduceAdd, Nat.zero_add]
  refine qm ?_
  refine hk_region fun K hK => runs_eval tab_ok ?_
  simp only [ev0, evA, evB, evP, fl, gp, tab, simprocAttr, reduceCtorEq, reduceIte]
  refine fin_run trivial (hK _ ?_) <;> clear hK <;> clear K
  refine qa (qm ?_)
  refine hk_region fun K hK => runs_eval tab_ok ?_
  simp only [ev0, evA, evB, evP, fl, gp, tab, simprocAttr, reduceCtorEq, reduceIte]
  refine fin_stop trivial (runs_callG (clone_c v hne (by omega)) rfl rfl (by first | rfl | (simp [scG, scA, sc1, opl]; done) | (simp only [scG, List.all_cons, List.all_nil, ol_sc, Bool.and_true]; rfl)) (by simp only [dstOk, Nat.reduceLT]) (by repeat (first | exact trivial | constructor)) (runs_eval tab_ok ?_))
  simp only [Go.Pv.shf, List.range', Blk.ren, opl_ren, ren, ren1, ev0, evA, evB, evP, fl, gp, tab, simprocAttr, reduceCtorEq, reduceIte, hv, ol_sc, ol_ren]
  refine fin_run trivial (hK _ ?_) <;> clear hK <;> clear K
  refine qa (qm (qm ?_))
  refine hk_region fun K hK => runs_eval tab_ok ?_
  simp only [ev0, evA, evB, evP, fl, gp, tab, simprocAttr, reduceCtorEq, reduceIte]
  refine fin_run trivial (hK _ ?_) <;> clear hK <;> clear K
  refine qa (ql ?_)
  refine hk_loop (ι := Nat) (fun i => ⟨145, [(0, .ptr 0 0), (1, .sl 4 0 n), (16, .p (.int .i64 n)), (17, .p (.int .i64 i))], [.own [.p (.int .i64 p), .mptr 1], .mp .i64 (dOf L) (vOf L), .anc 0 0, .anc 1 1, .own (ol (updR (fun t => v.getD t 0 % p) 0 i v))]⟩) (fun i => i ≤ n) (fun i => n - i) 0 (Nat.zero_le _) [0, 1, 2, 3, 4] (by rw [updR_start]; simp only [leq, leA, ev0, evA, evB, evP, fl, gp, tab, simprocAttr, reduceCtorEq, reduceIte] <;> simp [hv, ol_length, ← hv, take_len]) fun i hi => ?_
  refine qm ?_
  refine hk_region fun K hK => runs_eval tab_ok ?_
  simp only [ev0, evA, evB, evP, fl, gp, tab, simprocAttr, reduceCtorEq, reduceIte]
  refine fin_run trivial (hK _ ?_) <;> clear hK <;> clear K
  refine qa (qm ?_)
  refine hk_cond rfl (fun hC1 => ?_) (fun hC1 => ?_)
  · (try simp only [nhs] at hC1)
    have hi1 : i < n := by omega
    have hl : (updR (fun t => v.getD t 0 % (p : Int)) 0 i v).length = n := by rw [updR_len, hv]
    have hg : ∀ d, (ol (updR (fun t => v.getD t 0 % (p : Int)) 0 i v)).getD i d = .p (.int .i64 (v.getD i 0)) := fun d => by
      rw [ol_get (by omega), updR_get (by omega), if_neg (by omega)]
    have hs : (updR (fun t => v.getD t 0 % (p : Int)) 0 i v).set i (v.getD i 0 % p) = updR (fun t => v.getD t 0 % (p : Int)) 0 (i + 1) v := updR_set (f := fun t => v.getD t 0 % (p : Int)) (Nat.zero_le _) (by omega)
    have hbi := hb i hi1
    have ht1 := Int.lt_tmod_of_pos (v.getD i 0) (show (0 : Int) < p by omega)
    have ht2 := Int.tmod_lt_of_pos (v.getD i 0) (show (0 : Int) < p by omega)
    refine qh (qa (qm (ql (qm ?_))))
    refine hk_region fun K hK => runs_eval tab_ok ?_
    simp only [ev0, evA, evB, evP, fl, gp, tab, simprocAttr, reduceCtorEq, reduceIte]
    refine fin_run trivial (hK _ ?_) <;> clear hK <;> clear K
    refine qa ?_
    refine hk_draw mixed (by kernel_rfl) fun K hK => runs_eval tab_ok ?_
    simp only [ev0, evA, evB, evP, fl, gp, tab, simprocAttr, reduceCtorEq, reduceIte, hg, tmod2 hp0, ol_set, hs, hl]
    refine fin_run ?_ (hK _ ?_) <;> clear hK <;> clear K
    · (first | exact trivial | omega | (simp only [In64] at *; omega) | (simp [In64] at *; omega) | (simp_all; done) | skip)
    refine qd (qa ?_)
    refine hk_region fun K hK => runs_eval tab_ok ?_
    simp only [ev0, evA, evB, evP, fl, gp, tab, simprocAttr, reduceCtorEq, reduceIte]
    refine fin_run ?_ (hK _ ?_) <;> clear hK <;> clear K
    · (first | exact trivial | omega | (simp only [In64] at *; omega) | (simp [In64] at *; omega) | (simp_all; done) | skip)
    refine qa ?_
    refine ⟨i + 1, [0, 1, 2, 3, 4], by omega, by omega, ?_⟩
    simp only [leq, leA, ev0, evA, evB, evP, fl, gp, tab, simprocAttr, reduceCtorEq, reduceIte] <;> omega
  · (try simp only [nhs] at hC1)
    refine qj (qc (qc (qf (qa (qm (qm ?_))))))
    refine hk_region fun K hK => runs_eval tab_ok ?_
    simp only [ev0, evA, evB, evP, fl, gp, tab, simprocAttr, reduceCtorEq, reduceIte]
    refine fin_run trivial (hK _ ?_) <;> clear hK <;> clear K
    refine qa (ql ?_)
    have hL2 : (updR (fun t => v.getD t 0 % (p : Int)) 0 i v) = nrm p v := by
      unfold nrm
      rw [show i = v.length by simp at hC1; omega]
    refine hk_loop (ι := Nat × List Int) (fun x => ⟨145, [(0, .ptr 0 0), (1, .sl 4 0 n), (44, .p (.int .i64 n)), (45, .p (.int .i64 x.1))], [.own [.p (.int .i64 p), .mptr 1], .mp .i64 (dOf L) (vOf L), .anc 0 0, .anc 1 1, .own (ol x.2)]⟩) (fun x => x.1 ≤ n ∧ x.2.length = n ∧ rng p x.2 ∧ scan p L (n - x.1) x.1 x.2 = addL p L v) (fun x => n - x.1) (0, nrm p v) ⟨Nat.zero_le _, by rw [nrm, updR_len, hv], nrm_rng hp0 v, by rw [addL, hv]; rfl⟩ [0, 1, 2, 3, 4] (by rw [hL2]; simp only [leq, leA, ev0, evA, evB, evP, fl, gp, tab, simprocAttr, reduceCtorEq, reduceIte]) fun x hx => ?_
    obtain ⟨j, u⟩ := x
    obtain ⟨hj1, hu1, hu2, hu3⟩ := hx
    simp only at hj1 hu1 hu2 hu3
    refine qm ?_
    refine hk_region fun K hK => runs_eval tab_ok ?_
    simp only [ev0, evA, evB, evP, fl, gp, tab, simprocAttr, reduceCtorEq, reduceIte]
    refine fin_run trivial (hK _ ?_) <;> clear hK <;> clear K
    refine qa (qm ?_)
    refine hk_cond rfl (fun hC2 => ?_) (fun hC2 => ?_)
    · (try simp only [nhs] at hC2)
      have hjn : j < n := by omega
      obtain ⟨m, hm⟩ : ∃ m, n - j = m + 1 := ⟨n - j - 1, by omega⟩
      have hg : ∀ d, (ol u).getD j d = .p (.int .i64 (u.getD j 0)) := fun d => ol_get (by omega) d
      obtain ⟨hr1, hr2⟩ := hu2 j (by omega)
      refine qh (qa (qm (ql (qm ?_))))
      refine hk_region fun K hK => runs_eval tab_ok ?_
      simp only [ev0, evA, evB, evP, fl, gp, tab, simprocAttr, reduceCtorEq, reduceIte]
      refine fin_run trivial (hK _ ?_) <;> clear hK <;> clear K
      refine qa (qm (qm ?_))
      refine hk_region fun K hK => runs_eval tab_ok ?_
      simp only [ev0, evA, evB, evP, fl, gp, tab, simprocAttr, reduceCtorEq, reduceIte, hg]
      refine fin_run ?_ (hK _ ?_) <;> clear hK <;> clear K
      · (first | exact trivial | omega | (simp only [In64] at *; omega) | (simp [In64] at *; omega) | (simp_all; done) | skip)
      refine qa ?_
      refine hk_cond rfl (fun hC3 => ?_) (fun hC3 => ?_)
      · (try simp only [nhs] at hC3)
        refine qj (qc (qf (qa ?_)))
        refine hk_region fun K hK => runs_eval tab_ok ?_
        simp only [ev0, evA, evB, evP, fl, gp, tab, simprocAttr, reduceCtorEq, reduceIte]
        refine fin_run ?_ (hK _ ?_) <;> clear hK <;> clear K
        · (first | exact trivial | omega | (simp only [In64] at *; omega) | (simp [In64] at *; omega) | (simp_all; done) | skip)
        refine qa ?_
        refine ⟨(j + 1, u), [0, 1, 2, 3, 4], ⟨by omega, hu1, hu2, ?_⟩, by omega, ?_⟩
        · rw [hm] at hu3
          rw [scan, if_pos hC3] at hu3
          rw [show n - (j + 1) = m by omega]; exact hu3
        · simp only [leq, leA, ev0, evA, evB, evP, fl, gp, tab, simprocAttr, reduceCtorEq, reduceIte] <;> omega
      · (try simp only [nhs] at hC3)
        refine qh (qa (qm ?_))
        rcases hk : lkp L j with _ | w
        · refine hk_region fun K hK => runs_eval tab_ok ?_
          simp only [ev0, evA, evB, evP, fl, gp, tab, simprocAttr, reduceCtorEq, reduceIte, (show dOf L (j : Int) = false by rw [dOf_iff, hk]; rfl)]
          refine fin_run ?_ (hK _ ?_) <;> clear hK <;> clear K
          · (first | exact trivial | omega | (simp only [In64] at *; omega) | (simp [In64] at *; omega) | (simp_all; done) | skip)
          refine qa (qm (qm ?_))
          refine hk_region fun K hK => runs_eval tab_ok ?_
          simp only [ev0, evA, evB, evP, fl, gp, tab, simprocAttr, reduceCtorEq, reduceIte]
          refine fin_run trivial (hK _ ?_) <;> clear hK <;> clear K
          refine qa ?_
          refine hk_cond rfl (fun hC4 => ?_) (fun hC4 => ?_)
          · (try simp only [nhs] at hC4)
            refine qm ?_
            refine hk_region fun K hK => runs_eval tab_ok ?_
            simp only [ev0, evA, evB, evP, fl, gp, tab, simprocAttr, reduceCtorEq, reduceIte]
            refine fin_run trivial (hK _ ?_) <;> clear hK <;> clear K
            refine qa (qm (ql ?_))
            have h0 : 0 < u.getD j 0 := by omega
            obtain ⟨k1, k2, k3, k4⟩ := inv_spec hp h0 hr2
            have hR : addL p L v = ((j, mulAll p (inv p (u.getD j 0)) u) :: L, true) := by
              rw [← hu3, hm, scan, if_neg hC3, hk]
            refine hk_loop (ι := Nat) (fun k => ⟨145, [(0, .ptr 0 0), (1, .sl 4 0 n), (6, .p (.int .i64 j)), (9, .p (.int .i64 k))], [.own [.p (.int .i64 p), .mptr 1], .mp .i64 (dOf L) (vOf L), .anc 0 0, .anc 1 1, .own (ol u)]⟩) (fun k => k ≤ inv p (u.getD j 0)) (fun k => 8 - k) 1 k1 [0, 1, 2, 3, 4] (by simp only [leq, leA, ev0, evA, evB, evP, fl, gp, tab, simprocAttr, reduceCtorEq, reduceIte]) fun k hk3 => ?_
            have h49 := mul49 (a := (k : Int)) (x := u.getD j 0) (by omega) (by omega) hr1 (by omega)
            have htm : Int.tmod ((k : Int) * u.getD j 0) p = ((k : Int) * u.getD j 0) % p := Int.tmod_eq_emod_of_nonneg h49.1
            refine qm (qm ?_)
            refine hk_draw mixed (by kernel_rfl) fun K hK => runs_eval tab_ok ?_
            simp only [ev0, evA, evB, evP, fl, gp, tab, simprocAttr, reduceCtorEq, reduceIte, hg, htm]
            refine fin_run ?_ (hK _ ?_) <;> clear hK <;> clear K
            · (first | exact trivial | omega | (simp only [In64] at *; omega) | (simp [In64] at *; omega) | (simp_all; done) | skip)
            refine qa ?_
            refine hk_cond rfl (fun hC5 => ?_) (fun hC5 => ?_)
            · (try simp only [nhs] at hC5)
              refine qh (qa (ql ?_))
              refine hk_region fun K hK => runs_eval tab_ok ?_
              simp only [ev0, evA, evB, evP, fl, gp, tab, simprocAttr, reduceCtorEq, reduceIte]
              refine fin_run ?_ (hK _ ?_) <;> clear hK <;> clear K
              · (first | exact trivial | omega | (simp only [In64] at *; omega) | (simp [In64] at *; omega) | (simp_all; done) | skip)
              refine qd (qa ?_)
              have hne3 : k ≠ inv p (u.getD j 0) := fun e => hC5 (by rw [e]; exact k3)
              refine ⟨k + 1, [0, 1, 2, 3, 4], by omega, by omega, ?_⟩
              simp only [leq, leA, ev0, evA, evB, evP, fl, gp, tab, simprocAttr, reduceCtorEq, reduceIte] <;> omega
            · (try simp only [nhs] at hC5)
              refine qj (qc (qc (qf (qa (qm (qm ?_))))))
              refine hk_region fun K hK => runs_eval tab_ok ?_
              simp only [ev0, evA, evB, evP, fl, gp, tab, simprocAttr, reduceCtorEq, reduceIte]
              refine fin_run trivial (hK _ ?_) <;> clear hK <;> clear K
              refine qa (ql ?_)
              have hke : k = inv p (u.getD j 0) := by
                rcases Nat.lt_or_ge k (inv p (u.getD j 0)) with h | h
                · exact absurd (by simpa using hC5) (k4 k h)
                · omega
              subst hke
              refine hk_loop (ι := Nat) (fun t => ⟨145, [(0, .ptr 0 0), (1, .sl 4 0 n), (6, .p (.int .i64 j)), (9, .p (.int .i64 (inv p (u.getD j 0) : Nat))), (79, .p (.int .i64 n)), (80, .p (.int .i64 t))], [.own [.p (.int .i64 p), .mptr 1], .mp .i64 (dOf L) (vOf L), .anc 0 0, .anc 1 1, .own (ol (updR (fun q => u.getD q 0 * (inv p (u.getD j 0) : Nat) % p) 0 t u))]⟩) (fun t => t ≤ n) (fun t => n - t) 0 (Nat.zero_le _) [0, 1, 2, 3, 4] (by rw [updR_start]; simp only [leq, leA, ev0, evA, evB, evP, fl, gp, tab, simprocAttr, reduceCtorEq, reduceIte]) fun t ht => ?_
              refine qm ?_
              refine hk_region fun K hK => runs_eval tab_ok ?_
              simp only [ev0, evA, evB, evP, fl, gp, tab, simprocAttr, reduceCtorEq, reduceIte]
              refine fin_run trivial (hK _ ?_) <;> clear hK <;> clear K
              refine qa (qm ?_)
              refine hk_cond rfl (fun hC6 => ?_) (fun hC6 => ?_)
              · (try simp only [nhs] at hC6)
                have htn : t < n := by omega
                obtain ⟨hq1, hq2⟩ := hu2 t (by omega)
                have hl : (updR (fun q => u.getD q 0 * (inv p (u.getD j 0) : Nat) % (p : Int)) 0 t u).length = n := by rw [updR_len, hu1]
                have hg2 : ∀ d, (ol (updR (fun q => u.getD q 0 * (inv p (u.getD j 0) : Nat) % (p : Int)) 0 t u)).getD t d = .p (.int .i64 (u.getD t 0)) := fun d => by
                  rw [ol_get (by omega), updR_get (by omega), if_neg (by omega)]
                have hs : (updR (fun q => u.getD q 0 * (inv p (u.getD j 0) : Nat) % (p : Int)) 0 t u).set t (u.getD t 0 * (inv p (u.getD j 0) : Nat) % p) = updR (fun q => u.getD q 0 * (inv p (u.getD j 0) : Nat) % (p : Int)) 0 (t + 1) u := updR_set (f := fun q => u.getD q 0 * (inv p (u.getD j 0) : Nat) % (p : Int)) (Nat.zero_le _) (by omega)
                have h49 := mul49 (a := u.getD t 0) (x := (inv p (u.getD j 0) : Nat)) hq1 (by omega) (by omega) (by omega)
                have htm : Int.tmod (u.getD t 0 * (inv p (u.getD j 0) : Nat)) p = (u.getD t 0 * (inv p (u.getD j 0) : Nat)) % p := Int.tmod_eq_emod_of_nonneg h49.1
                refine qh (qa (qm (ql (qm ?_))))
                refine hk_region fun K hK => runs_eval tab_ok ?_
                simp only [ev0, evA, evB, evP, fl, gp, tab, simprocAttr, reduceCtorEq, reduceIte]
                refine fin_run trivial (hK _ ?_) <;> clear hK <;> clear K
                refine qa ?_
                refine hk_draw mixed (by kernel_rfl) fun K hK => runs_eval tab_ok ?_
                simp only [ev0, evA, evB, evP, fl, gp, tab, simprocAttr, reduceCtorEq, reduceIte, hg2, htm, ol_set, hs, hl]
                refine fin_run ?_ (hK _ ?_) <;> clear hK <;> clear K
                · (first | exact trivial | omega | (simp only [In64] at *; omega) | (simp [In64] at *; omega) | (simp_all; done) | skip)
                refine qd (qa ?_)
                refine hk_region fun K hK => runs_eval tab_ok ?_
                simp only [ev0, evA, evB, evP, fl, gp, tab, simprocAttr, reduceCtorEq, reduceIte]
                refine fin_run ?_ (hK _ ?_) <;> clear hK <;> clear K
                · (first | exact trivial | omega | (simp only [In64] at *; omega) | (simp [In64] at *; omega) | (simp_all; done) | skip)
                refine qa ?_
                refine ⟨t + 1, [0, 1, 2, 3, 4], by omega, by omega, ?_⟩
                simp only [leq, leA, ev0, evA, evB, evP, fl, gp, tab, simprocAttr, reduceCtorEq, reduceIte] <;> omega
              · (try simp only [nhs] at hC6)
                refine qj (qc (qc (qf (qa (qm ?_)))))
                have hte : t = n := by simp at hC6; omega
                subst hte
                have hml : (mulAll p (inv p (u.getD j 0) : Nat) u).length = t := by rw [mulAll, updR_len, hu1]
                refine hk_seal 1 4 (w := mulAll p (inv p (u.getD j 0) : Nat) u) (by rw [hml]; rfl) (by rw [← hu1]; rfl) ?_
                refine hk_region fun K hK => runs_eval tab_ok ?_
                simp only [ev0, evA, evB, evP, fl, gp, tab, simprocAttr, reduceCtorEq, reduceIte]
                refine fin_run ?_ (hK _ ?_) <;> clear hK <;> clear K
                · (first | exact trivial | omega | (simp only [In64] at *; omega) | (simp [In64] at *; omega) | (simp_all; done) | skip)
                refine qa (qm ?_)
                refine hk_region fun K hK => runs_eval tab_ok ?_
                simp only [ev0, evA, evB, evP, fl, gp, tab, simprocAttr, reduceCtorEq, reduceIte]
                refine fin_run trivial (hK _ ?_) <;> clear hK <;> clear K
                refine qa (qk (qb (qe (qb (qb (qe (qb ?_)))))))
                simp only [Tryd.results105, PostG, endG, rvsA, rvA, mkTup, ev0, evA, evB, evP, fl, gp, tab, simprocAttr, reduceCtorEq, reduceIte]
                rw [hR]
                exact ⟨[0, 1, 2, 3], rfl, rfl, rfl, by simp, ⟨⟨rfl, rfl⟩, rfl, ⟨rfl, by decide⟩, ⟨rfl, by decide⟩, trivial⟩, trivial⟩
          · cases hC4
        · refine hk_region fun K hK => runs_eval tab_ok ?_
          simp only [ev0, evA, evB, evP, fl, gp, tab, simprocAttr, reduceCtorEq, reduceIte, (show dOf L (j : Int) = true by rw [dOf_iff, hk]; rfl), vOf_some hk]
          refine fin_run ?_ (hK _ ?_) <;> clear hK <;> clear K
          · (first | exact trivial | omega | (simp only [In64] at *; omega) | (simp [In64] at *; omega) | (simp_all; done) | skip)
          refine qa (qm (qm ?_))
          refine hk_region fun K hK => runs_eval tab_ok ?_
          simp only [ev0, evA, evB, evP, fl, gp, tab, simprocAttr, reduceCtorEq, reduceIte]
          refine fin_run trivial (hK _ ?_) <;> clear hK <;> clear K
          refine qa ?_
          refine hk_cond rfl (fun hC4 => ?_) (fun hC4 => ?_)
          · cases hC4
          · (try simp only [nhs] at hC4)
            refine qh (qa (qm ?_))
            refine hk_region fun K hK => runs_eval tab_ok ?_
            simp only [ev0, evA, evB, evP, fl, gp, tab, simprocAttr, reduceCtorEq, reduceIte]
            refine fin_run ?_ (hK _ ?_) <;> clear hK <;> clear K
            · (first | exact trivial | omega | (simp only [In64] at *; omega) | (simp [In64] at *; omega) | (simp_all; done) | skip)
            refine qa (qm ?_)
            refine hk_region fun K hK => runs_eval tab_ok ?_
            simp only [ev0, evA, evB, evP, fl, gp, tab, simprocAttr, reduceCtorEq, reduceIte]
            refine fin_run trivial (hK _ ?_) <;> clear hK <;> clear K
            refine qa (ql ?_)
            have hwl : w.length = n := hL.len _ (lkp_mem hk)
            have hwr : rng p w := hL.rg _ (lkp_mem hk)
            refine hk_loop (ι := Nat) (fun t => ⟨145, [(0, .ptr 0 0), (1, .sl 4 0 n), (7, .p (.list (il w))), (11, .p (.int .i64 (u.getD j 0))), (12, .p (.int .i64 t)), (44, .p (.int .i64 n)), (45, .p (.int .i64 j))], [.own [.p (.int .i64 p), .mptr 1], .mp .i64 (dOf L) (vOf L), .anc 0 0, .anc 1 1, .own (ol (updR (fun q => (u.getD q 0 - u.getD j 0 * w.getD q 0) % p) j t u))]⟩) (fun t => j ≤ t ∧ t ≤ n) (fun t => n - t) j ⟨Nat.le_refl _, hj1⟩ [0, 1, 2, 3, 4] (by rw [updR_start]; simp only [leq, leA, ev0, evA, evB, evP, fl, gp, tab, simprocAttr, reduceCtorEq, reduceIte]; exact hg _) fun t ht => ?_
            obtain ⟨ht1, ht2⟩ := ht
            refine qm (qm ?_)
            refine hk_region fun K hK => runs_eval tab_ok ?_
            simp only [ev0, evA, evB, evP, fl, gp, tab, simprocAttr, reduceCtorEq, reduceIte]
            refine fin_run trivial (hK _ ?_) <;> clear hK <;> clear K
            refine qa ?_
            refine hk_cond rfl (fun hC7 => ?_) (fun hC7 => ?_)
            · (try simp only [nhs] at hC7)
              have htn : t < n := by omega
              obtain ⟨hq1, hq2⟩ := hu2 t (by omega)
              obtain ⟨hw1, hw2⟩ := hwr t (by omega)
              have hl : (updR (fun q => (u.getD q 0 - u.getD j 0 * w.getD q 0) % (p : Int)) j t u).length = n := by rw [updR_len, hu1]
              have hg2 : ∀ d, (ol (updR (fun q => (u.getD q 0 - u.getD j 0 * w.getD q 0) % (p : Int)) j t u)).getD t d = .p (.int .i64 (u.getD t 0)) := fun d => by
                rw [ol_get (by omega), updR_get (by omega), if_neg (by omega)]
              have hs : (updR (fun q => (u.getD q 0 - u.getD j 0 * w.getD q 0) % (p : Int)) j t u).set t ((u.getD t 0 - u.getD j 0 * w.getD t 0) % p) = updR (fun q => (u.getD q 0 - u.getD j 0 * w.getD q 0) % (p : Int)) j (t + 1) u := updR_set (f := fun q => (u.getD q 0 - u.getD j 0 * w.getD q 0) % (p : Int)) ht1 (by omega)
              have h49 := mul49 (a := u.getD j 0) (x := w.getD t 0) hr1 (by omega) hw1 (by omega)
              have hy1 := Int.lt_tmod_of_pos (u.getD t 0 - u.getD j 0 * w.getD t 0) (show (0 : Int) < p by omega)
              have hy2 := Int.tmod_lt_of_pos (u.getD t 0 - u.getD j 0 * w.getD t 0) (show (0 : Int) < p by omega)
              refine qh (qa (qm (ql ?_)))
              refine hk_draw mixed (by kernel_rfl) fun K hK => runs_eval tab_ok ?_
              simp only [ev0, evA, evB, evP, fl, gp, tab, simprocAttr, reduceCtorEq, reduceIte, hg2, il_get (show t < w.length by omega), tmod2 hp0, ol_set, hs, hl]
              refine fin_run ?_ (hK _ ?_) <;> clear hK <;> clear K
              · (first | exact trivial | omega | (simp only [In64] at *; omega) | (simp [In64] at *; omega) | (simp_all; done) | skip)
              refine qd (qa ?_)
              refine hk_region fun K hK => runs_eval tab_ok ?_
              simp only [ev0, evA, evB, evP, fl, gp, tab, simprocAttr, reduceCtorEq, reduceIte]
              refine fin_run ?_ (hK _ ?_) <;> clear hK <;> clear K
              · (first | exact trivial | omega | (simp only [In64] at *; omega) | (simp [In64] at *; omega) | (simp_all; done) | skip)
              refine qa ?_
              refine ⟨t + 1, [0, 1, 2, 3, 4], ⟨by omega, by omega⟩, by omega, ?_⟩
              simp only [leq, leA, ev0, evA, evB, evP, fl, gp, tab, simprocAttr, reduceCtorEq, reduceIte] <;> omega
            · (try simp only [nhs] at hC7)
              refine qj (qc (qc (qf (qd (qa ?_)))))
              refine hk_region fun K hK => runs_eval tab_ok ?_
              simp only [ev0, evA, evB, evP, fl, gp, tab, simprocAttr, reduceCtorEq, reduceIte]
              refine fin_run ?_ (hK _ ?_) <;> clear hK <;> clear K
              · (first | exact trivial | omega | (simp only [In64] at *; omega) | (simp [In64] at *; omega) | (simp_all; done) | skip)
              refine qa ?_
              have hte : t = n := by simp at hC7; omega
              refine ⟨(j + 1, redAt p w j u), [0, 1, 2, 3, 4], ⟨by omega, by rw [redAt, updR_len, hu1], redAt_rng hp0 hu2, ?_⟩, by omega, ?_⟩
              · rw [hm, scan, if_neg hC3, hk] at hu3
                rw [show n - (j + 1) = m by omega]; exact hu3
              · rw [redAt, hu1, ← hte]
                simp only [leq, leA, ev0, evA, evB, evP, fl, gp, tab, simprocAttr, reduceCtorEq, reduceIte] <;> omega
    · (try simp only [nhs] at hC2)
      refine qj (qc (qc (qf (qa (qm ?_)))))
      refine hk_region fun K hK => runs_eval tab_ok ?_
      simp only [ev0, evA, evB, evP, fl, gp, tab, simprocAttr, reduceCtorEq, reduceIte]
      refine fin_run trivial (hK _ ?_) <;> clear hK <;> clear K
      refine qa (qk ?_)
      simp only [Tryd.results105, PostG, endG, rvsA, rvA, mkTup, ev0, evA, evB, evP, fl, gp, tab, simprocAttr, reduceCtorEq, reduceIte]
      have hR : addL p L v = (L, false) := by
        rw [← hu3, show n - j = 0 by simp at hC2; omega]; rfl
      rw [hR]
      exact ⟨[0, 1, 2, 3], rfl, rfl, rfl, by simp, ⟨⟨rfl, rfl⟩, rfl, ⟨rfl, by decide⟩, ⟨rfl, by decide⟩, trivial⟩, trivial⟩

end Go.Proofs.YtjbfkdaodfdpcaaDoor

/-
  Rows of equations modulo a prime: what they span. Plain law. Conditions: none.
-/
set_option linter.all false
namespace Go.Proofs.YtjbfkdaodfdpcaaDoor
open Go.Pv

def lsum (c : Nat → Int) : List (Nat × List Int) → Nat → Int
  | [], _ => 0
  | e :: L, j => c e.1 * e.2.getD j 0 + lsum c L j

/-- What rows span. -/
def Sp (p n : Nat) (L : List (Nat × List Int)) (v : Nat → Int) : Prop := ∃ c : Nat → Int, ∀ j, j < n → (p : Int) ∣ v j - lsum c L j

theorem lsum_lin (a b : Int) (c d : Nat → Int) (j : Nat) : ∀ L, lsum (fun k => a * c k + b * d k) L j = a * lsum c L j + b * lsum d L j
  | [] => by simp [lsum]
  | e :: L => by
    simp only [lsum, lsum_lin a b c d j L, Int.add_mul, Int.mul_add, Int.mul_assoc]; omega

theorem lsum_congr {c d : Nat → Int} {j : Nat} : ∀ {L : List (Nat × List Int)}, (∀ e ∈ L, c e.1 = d e.1) → lsum c L j = lsum d L j
  | [], _ => rfl
  | e :: L, h => by
    simp only [lsum]
    rw [h e (by simp), lsum_congr fun e' he => h e' (by simp [he])]

theorem lsum_dvd {p : Int} {c : Nat → Int} {j : Nat} : ∀ {L : List (Nat × List Int)}, (∀ e ∈ L, p ∣ c e.1 * e.2.getD j 0) → p ∣ lsum c L j
  | [], _ => by simp [lsum]
  | e :: L, h => by
    simp only [lsum]
    exact Int.dvd_add (h e (by simp)) (lsum_dvd fun e' he => h e' (by simp [he]))

theorem lsum_zero {j : Nat} : ∀ {L : List (Nat × List Int)}, lsum (fun _ => 0) L j = 0
  | [] => rfl
  | e :: L => by simp only [lsum, lsum_zero (L := L)]; omega

def dl1 (i k : Nat) : Int := if k = i then 1 else 0

theorem lsum_dl {i j : Nat} : ∀ {L : List (Nat × List Int)}, (L.map (·.1)).Nodup → ∀ {w}, (i, w) ∈ L → lsum (dl1 i) L j = w.getD j 0
  | [], _, w, h => by cases h
  | e :: L, hn, w, h => by
    rw [List.map_cons, List.nodup_cons] at hn
    simp only [lsum]
    rcases List.mem_cons.1 h with rfl | h
    · have : lsum (dl1 i) L j = lsum (fun _ => 0) L j := lsum_congr fun e' he => by
        have : e'.1 ≠ i := fun e => hn.1 (by simp only; rw [← e]; exact List.mem_map_of_mem (f := (·.1)) he)
        simp [dl1, this]
      rw [this, lsum_zero]
      simp [dl1]
    · have hne : e.1 ≠ i := fun e' => hn.1 (by rw [e']; exact List.mem_map_of_mem (f := (·.1)) h)
      rw [lsum_dl hn.2 h]
      simp [dl1, hne]

theorem Sp.lin {p n : Nat} {L : List (Nat × List Int)} {v u : Nat → Int} (h1 : Sp p n L v) (h2 : Sp p n L u) (a b : Int) : Sp p n L (fun j => a * v j + b * u j) := by
  obtain ⟨c, hc⟩ := h1
  obtain ⟨d, hd⟩ := h2
  refine ⟨fun k => a * c k + b * d k, fun j hj => ?_⟩
  rw [lsum_lin]
  have e : a * v j + b * u j - (a * lsum c L j + b * lsum d L j) = a * (v j - lsum c L j) + b * (u j - lsum d L j) := by
    rw [Int.mul_sub, Int.mul_sub]; omega
  rw [e]
  exact Int.dvd_add (Int.dvd_mul_of_dvd_right (hc j hj)) (Int.dvd_mul_of_dvd_right (hd j hj))

theorem Sp.congr {p n : Nat} {L : List (Nat × List Int)} {v u : Nat → Int} (h : Sp p n L v) (he : ∀ j, j < n → (p : Int) ∣ u j - v j) : Sp p n L u := by
  obtain ⟨c, hc⟩ := h
  refine ⟨c, fun j hj => ?_⟩
  rw [show u j - lsum c L j = (u j - v j) + (v j - lsum c L j) by omega]
  exact Int.dvd_add (he j hj) (hc j hj)

theorem Sp.mem {p n : Nat} {L : List (Nat × List Int)} (hn : (L.map (·.1)).Nodup) {i : Nat} {w : List Int} (h : (i, w) ∈ L) : Sp p n L (fun j => w.getD j 0) :=
  ⟨dl1 i, fun j _ => by rw [lsum_dl hn h, Int.sub_self]; exact Int.dvd_zero _⟩

theorem Sp.zero {p n : Nat} {L : List (Nat × List Int)} {v : Nat → Int} (h : ∀ j, j < n → (p : Int) ∣ v j) : Sp p n L v :=
  ⟨fun _ => 0, fun j hj => by rw [lsum_zero, Int.sub_zero]; exact h j hj⟩

theorem Sp_cons {p n : Nat} {L : List (Nat × List Int)} {i : Nat} {w : List Int} (hi : ∀ e ∈ L, e.1 ≠ i) {v : Nat → Int} : Sp p n ((i, w) :: L) v ↔ ∃ x : Int, Sp p n L (fun j => v j - x * w.getD j 0) := by
  constructor
  · rintro ⟨c, hc⟩
    refine ⟨c i, c, fun j hj => ?_⟩
    have := hc j hj
    simp only [lsum] at this
    rw [show v j - c i * w.getD j 0 - lsum c L j = v j - (c i * w.getD j 0 + lsum c L j) by omega]
    exact this
  · rintro ⟨x, c, hc⟩
    refine ⟨fun k => if k = i then x else c k, fun j hj => ?_⟩
    simp only [lsum, if_true]
    rw [lsum_congr (d := c) fun e he => by simp [hi e he], show v j - (x * w.getD j 0 + lsum c L j) = v j - x * w.getD j 0 - lsum c L j by omega]
    exact hc j hj

/-- Where all before is nothing, and no row begins, nothing stands in what rows span. -/
theorem Ech.pivot {p n : Nat} {L : List (Nat × List Int)} (h : Ech p n L) {u : Nat → Int} {i : Nat} (hi : i < n) (h0 : ∀ j, j < i → (p : Int) ∣ u j) (hk : ∀ e ∈ L, e.1 ≠ i) (hs : Sp p n L u) : (p : Int) ∣ u i := by
  obtain ⟨c, hc⟩ := hs
  have key : ∀ t, t < i → ∀ e ∈ L, e.1 = t → (p : Int) ∣ c t := by
    intro t
    induction t using Nat.strongRecOn with
    | _ t ih =>
      intro ht e he het
      obtain ⟨e1, w⟩ := e
      simp only at het
      subst het
      have h1 : (p : Int) ∣ lsum c L e1 := by
        have h2 := Int.dvd_sub (h0 e1 ht) (hc e1 (by omega))
        rwa [show u e1 - (u e1 - lsum c L e1) = lsum c L e1 by omega] at h2
      have h3 : lsum (fun k => 1 * c k + (-(c e1)) * dl1 e1 k) L e1 = 1 * lsum c L e1 + (-(c e1)) * 1 := by
        rw [lsum_lin, lsum_dl h.keys he]
        have := h.one _ he
        simp only at this
        rw [this]
      have h4 : (p : Int) ∣ lsum (fun k => 1 * c k + (-(c e1)) * dl1 e1 k) L e1 := by
        refine lsum_dvd fun e' he' => ?_
        rcases Nat.lt_trichotomy e'.1 e1 with hlt | heq | hgt
        · have := ih e'.1 hlt (by omega) e' he' rfl
          have hd : dl1 e1 e'.1 = 0 := by simp [dl1]; omega
          simp only [hd, Int.mul_zero, Int.add_zero, Int.one_mul]
          exact Int.dvd_mul_of_dvd_left this
        · have hd : dl1 e1 e'.1 = 1 := by simp [dl1, heq]
          rw [hd, heq, show 1 * c e1 + -c e1 * 1 = 0 by omega, Int.zero_mul]; exact Int.dvd_zero _
        · rw [h.zero e' he' e1 hgt, Int.mul_zero]; exact Int.dvd_zero _
      rw [h3] at h4
      have := Int.dvd_sub h1 h4
      rwa [show lsum c L e1 - (1 * lsum c L e1 + -c e1 * 1) = c e1 by omega] at this
  have h1 : (p : Int) ∣ lsum c L i := by
    refine lsum_dvd fun e he => ?_
    rcases Nat.lt_trichotomy e.1 i with hlt | heq | hgt
    · exact Int.dvd_mul_of_dvd_left (key e.1 hlt e he rfl)
    · exact absurd heq (hk e he)
    · rw [h.zero e he i hgt, Int.mul_zero]; exact Int.dvd_zero _
  have := Int.dvd_add (hc i hi) h1
  rwa [show u i - lsum c L i + lsum c L i = u i by omega] at this

theorem dvd_emod_sub (p : Nat) (x : Int) : (p : Int) ∣ x % (p : Int) - x := by
  rw [Int.emod_def]
  exact ⟨-(x / p), by rw [Int.mul_neg]; omega⟩

theorem no_dvd {p : Nat} {x : Int} (h0 : 0 ≤ x) (h1 : x < p) (h : (p : Int) ∣ x) : x = 0 := by
  obtain ⟨k, rfl⟩ := h
  by_cases hk : k ≤ 0
  · rcases Int.lt_or_eq_of_le hk with hk | rfl
    · have : (p : Int) * k < 0 ∨ (p : Int) * k = 0 := by
        by_cases hp : (p : Int) = 0
        · right; rw [hp, Int.zero_mul]
        · left; exact Int.mul_neg_of_pos_of_neg (by omega) hk
      omega
    · exact Int.mul_zero _
  · have : (p : Int) * 1 ≤ p * k := Int.mul_le_mul_of_nonneg_left (by omega) (by omega)
    omega

theorem scan_spec {p n : Nat} (hp : pr p) {L : List (Nat × List Int)} (hL : Ech p n L) : ∀ (m i : Nat) (u : List Int), i + m = n → u.length = n → rng p u → (∀ j, j < i → u.getD j 0 = 0) →
    ((scan p L m i u).2 = false → (scan p L m i u).1 = L ∧ Sp p n L (fun j => u.getD j 0)) ∧
    ((scan p L m i u).2 = true → ∃ i0 w, (scan p L m i u).1 = (i0, w) :: L ∧ (∀ e ∈ L, e.1 ≠ i0) ∧ i0 < n ∧ w.length = n ∧ rng p w ∧ w.getD i0 0 = 1 ∧ (∀ j, j < i0 → w.getD j 0 = 0) ∧
      (∀ v : Nat → Int, (∃ t : Int, Sp p n L (fun j => v j - t * u.getD j 0)) ↔ ∃ t : Int, Sp p n L (fun j => v j - t * w.getD j 0)) ∧ ¬ Sp p n L (fun j => u.getD j 0))
  | 0, i, u, hi, hu, hr, h0 => by
    refine ⟨fun _ => ⟨rfl, Sp.zero fun j hj => ?_⟩, fun h => by simp [scan] at h⟩
    rw [h0 j (by omega)]; exact Int.dvd_zero _
  | m + 1, i, u, hi, hu, hr, h0 => by
    have hp2 := hp.le
    have hp0 : 0 < p := by omega
    obtain ⟨r1, r2⟩ := hr i (by omega)
    by_cases hz : u.getD i 0 = 0
    · have e : scan p L (m + 1) i u = scan p L m (i + 1) u := by rw [scan, if_pos hz]
      rw [e]
      refine scan_spec hp hL m (i + 1) u (by omega) hu hr fun j hj => ?_
      by_cases e : j = i
      · rw [e]; exact hz
      · exact h0 j (by omega)
    · cases hk : lkp L i with
      | none =>
        have e : scan p L (m + 1) i u = ((i, mulAll p (inv p (u.getD i 0)) u) :: L, true) := by rw [scan, if_neg hz, hk]
        rw [e]
        obtain ⟨k1, k2, k3, _⟩ := inv_spec hp (show 0 < u.getD i 0 by omega) r2
        generalize hke : (inv p (u.getD i 0) : Int) = k at *
        have hw : ∀ j, j < n → (mulAll p k u).getD j 0 = u.getD j 0 * k % p := fun j hj => by
          unfold mulAll; rw [updR_get (by omega), if_pos ⟨by omega, by omega⟩]
        have hwk : ∀ j, j < n → (p : Int) ∣ (mulAll p k u).getD j 0 - k * u.getD j 0 := fun j hj => by
          rw [hw j hj, Int.mul_comm k]; exact dvd_emod_sub _ _
        have hk1 : (p : Int) ∣ k * u.getD i 0 - 1 := by
          have := dvd_emod_sub p (k * u.getD i 0)
          rw [k3] at this
          have := Int.dvd_neg.2 this
          rwa [show -(1 - k * u.getD i 0) = k * u.getD i 0 - 1 by omega] at this
        refine ⟨fun h => by simp at h, fun _ => ⟨i, _, rfl, lkp_none hk, by omega, by rw [mulAll, updR_len, hu], mulAll_rng hp0 k u, ?_, fun j hj => ?_, fun v => ⟨?_, ?_⟩, fun hs => ?_⟩⟩
        · rw [hw i (by omega), Int.mul_comm, k3]
        · rw [hw j (by omega), h0 j hj, Int.zero_mul]; simp
        · rintro ⟨t, ht⟩
          refine ⟨t * u.getD i 0, ht.congr fun j hj => ?_⟩
          -- v - t ui w - (v - t u) = t (u - ui w)
          have h1 := hwk j hj
          have e : v j - t * u.getD i 0 * (mulAll p k u).getD j 0 - (v j - t * u.getD j 0) = (-(t * u.getD i 0)) * ((mulAll p k u).getD j 0 - k * u.getD j 0) + (-(t * u.getD j 0)) * (k * u.getD i 0 - 1) := by
            generalize (mulAll p k u).getD j 0 = W
            generalize u.getD i 0 = x
            generalize u.getD j 0 = y
            simp only [Int.mul_sub, Int.neg_mul, Int.mul_one]
            rw [show t * x * (k * y) = t * y * (k * x) by simp only [Int.mul_comm, Int.mul_left_comm, Int.mul_assoc]]
            omega
          rw [e]
          exact Int.dvd_add (Int.dvd_mul_of_dvd_right h1) (Int.dvd_mul_of_dvd_right hk1)
        · rintro ⟨t, ht⟩
          refine ⟨t * k, ht.congr fun j hj => ?_⟩
          have h1 := hwk j hj
          rw [show v j - t * k * u.getD j 0 - (v j - t * (mulAll p k u).getD j 0) = t * ((mulAll p k u).getD j 0 - k * u.getD j 0) by rw [Int.mul_sub, ← Int.mul_assoc]; omega]
          exact Int.dvd_mul_of_dvd_right h1
        · have := hL.pivot (i := i) (by omega) (fun j hj => by rw [h0 j hj]; exact Int.dvd_zero _) (lkp_none hk) hs
          exact hz (no_dvd r1 r2 this)
      | some w0 =>
        have e : scan p L (m + 1) i u = scan p L m (i + 1) (redAt p w0 i u) := by rw [scan, if_neg hz, hk]
        rw [e]
        have hm := lkp_mem hk
        have hw : ∀ j, j < n → (p : Int) ∣ (redAt p w0 i u).getD j 0 - (u.getD j 0 - u.getD i 0 * w0.getD j 0) := fun j hj => by
          unfold redAt
          rw [updR_get (by omega)]
          split
          · exact dvd_emod_sub _ _
          · rename_i h
            have hji : j < i := by omega
            have := hL.zero _ hm j hji
            simp only at this
            rw [this, Int.mul_zero, Int.sub_zero, Int.sub_self]; exact Int.dvd_zero _
        have hz2 : ∀ j, j < i + 1 → (redAt p w0 i u).getD j 0 = 0 := fun j hj => by
          unfold redAt
          rw [updR_get (by omega)]
          split
          · have hji : j = i := by omega
            have := hL.one _ hm
            simp only at this
            rw [hji, this, Int.mul_one, Int.sub_self]; simp
          · exact h0 j (by omega)
        have hsw : Sp p n L (fun j => w0.getD j 0) := Sp.mem hL.keys hm
        obtain ⟨g1, g2⟩ := scan_spec hp hL m (i + 1) (redAt p w0 i u) (by omega) (by rw [redAt, updR_len, hu]) (redAt_rng hp0 hr) hz2
        have back : Sp p n L (fun j => (redAt p w0 i u).getD j 0) → Sp p n L (fun j => u.getD j 0) := fun h => by
          refine (h.lin hsw 1 (u.getD i 0)).congr fun j hj => ?_
          have := Int.dvd_neg.2 (hw j hj)
          rwa [show -((redAt p w0 i u).getD j 0 - (u.getD j 0 - u.getD i 0 * w0.getD j 0)) = u.getD j 0 - (1 * (redAt p w0 i u).getD j 0 + u.getD i 0 * w0.getD j 0) by omega] at this
        refine ⟨fun h => ⟨(g1 h).1, back (g1 h).2⟩, fun h => ?_⟩
        obtain ⟨i0, w, a1, a2, a3, a4, a5, a6, a7, a8, a9⟩ := g2 h
        refine ⟨i0, w, a1, a2, a3, a4, a5, a6, a7, fun v => ?_, fun hs => a9 ?_⟩
        · rw [← a8 v]
          constructor
          · rintro ⟨t, ht⟩
            refine ⟨t, (ht.lin hsw 1 (t * u.getD i 0)).congr fun j hj => ?_⟩
            rw [show v j - t * (redAt p w0 i u).getD j 0 - (1 * (v j - t * u.getD j 0) + t * u.getD i 0 * w0.getD j 0) = (-t) * ((redAt p w0 i u).getD j 0 - (u.getD j 0 - u.getD i 0 * w0.getD j 0)) by
              simp only [Int.neg_mul, Int.mul_sub, Int.one_mul, Int.mul_assoc]; omega]
            exact Int.dvd_mul_of_dvd_right (hw j hj)
          · rintro ⟨t, ht⟩
            refine ⟨t, (ht.lin hsw 1 (-(t * u.getD i 0))).congr fun j hj => ?_⟩
            rw [show v j - t * u.getD j 0 - (1 * (v j - t * (redAt p w0 i u).getD j 0) + -(t * u.getD i 0) * w0.getD j 0) = t * ((redAt p w0 i u).getD j 0 - (u.getD j 0 - u.getD i 0 * w0.getD j 0)) by
              simp only [Int.neg_mul, Int.mul_sub, Int.one_mul, Int.mul_assoc]; omega]
            exact Int.dvd_mul_of_dvd_right (hw j hj)
        · refine (hs.lin hsw 1 (-(u.getD i 0))).congr fun j hj => ?_
          have := hw j hj
          rwa [show (redAt p w0 i u).getD j 0 - (u.getD j 0 - u.getD i 0 * w0.getD j 0) = (redAt p w0 i u).getD j 0 - (1 * u.getD j 0 + -(u.getD i 0) * w0.getD j 0) by rw [Int.neg_mul]; omega] at this

theorem nrm_dvd {p : Nat} {v : List Int} {j : Nat} (hj : j < v.length) : (p : Int) ∣ (nrm p v).getD j 0 - v.getD j 0 := by
  unfold nrm
  rw [updR_get hj, if_pos ⟨Nat.zero_le _, hj⟩]
  exact dvd_emod_sub _ _

theorem nrm_sp {p n : Nat} {L : List (Nat × List Int)} {v : List Int} (hv : v.length = n) : Sp p n L (fun j => (nrm p v).getD j 0) ↔ Sp p n L (fun j => v.getD j 0) :=
  ⟨fun h => h.congr fun j hj => by
    have := Int.dvd_neg.2 (nrm_dvd (p := p) (v := v) (j := j) (by omega))
    rwa [show -((nrm p v).getD j 0 - v.getD j 0) = v.getD j 0 - (nrm p v).getD j 0 by omega] at this, fun h => h.congr fun j hj => nrm_dvd (by omega)⟩

/-- A ROW IS ADDED. -/
theorem addL_spec {p n : Nat} (hp : pr p) {L : List (Nat × List Int)} (hL : Ech p n L) {v : List Int} (hv : v.length = n) :
    Ech p n (addL p L v).1 ∧ ((addL p L v).2 = false ↔ Sp p n L (fun j => v.getD j 0)) ∧ (∀ x : Nat → Int, Sp p n (addL p L v).1 x ↔ ∃ t : Int, Sp p n L (fun j => x j - t * v.getD j 0)) ∧
      (addL p L v).1.length = L.length + (if (addL p L v).2 then 1 else 0) := by
  have hp2 := hp.le
  obtain ⟨g1, g2⟩ := scan_spec hp hL n 0 (nrm p v) (by omega) (by rw [nrm, updR_len, hv]) (nrm_rng (by omega) v) fun j hj => by omega
  have e : addL p L v = scan p L n 0 (nrm p v) := by rw [addL, hv]
  rw [← e] at g1 g2
  have rel : ∀ x : Nat → Int, (∃ t : Int, Sp p n L (fun j => x j - t * (nrm p v).getD j 0)) ↔ ∃ t : Int, Sp p n L (fun j => x j - t * v.getD j 0) := fun x => by
    constructor
    · rintro ⟨t, ht⟩
      refine ⟨t, ht.congr fun j hj => ?_⟩
      rw [show x j - t * v.getD j 0 - (x j - t * (nrm p v).getD j 0) = t * ((nrm p v).getD j 0 - v.getD j 0) by rw [Int.mul_sub]; omega]
      exact Int.dvd_mul_of_dvd_right (nrm_dvd (by omega))
    · rintro ⟨t, ht⟩
      refine ⟨t, ht.congr fun j hj => ?_⟩
      rw [show x j - t * (nrm p v).getD j 0 - (x j - t * v.getD j 0) = (-t) * ((nrm p v).getD j 0 - v.getD j 0) by rw [Int.neg_mul, Int.mul_sub]; omega]
      exact Int.dvd_mul_of_dvd_right (nrm_dvd (by omega))
  cases hb : (addL p L v).2 with
  | false =>
    obtain ⟨a1, a2⟩ := g1 hb
    have a3 := (nrm_sp hv).1 a2
    rw [a1]
    refine ⟨hL, ⟨fun _ => a3, fun _ => rfl⟩, fun x => ⟨fun h => ⟨0, h.congr fun j _ => by rw [Int.zero_mul, Int.sub_zero, Int.sub_self]; exact Int.dvd_zero _⟩, fun ⟨t, ht⟩ => ?_⟩, by simp⟩
    refine (ht.lin a3 1 t).congr fun j _ => ?_
    rw [show x j - (1 * (x j - t * v.getD j 0) + t * v.getD j 0) = 0 by omega]; exact Int.dvd_zero _
  | true =>
    obtain ⟨i0, w, a1, a2, a3, a4, a5, a6, a7, a8, a9⟩ := g2 hb
    rw [a1]
    refine ⟨⟨?_, ?_, ?_, ?_, ?_, ?_⟩, ⟨(fun h => by cases h), fun h => absurd ((nrm_sp hv).2 h) a9⟩, fun x => by rw [Sp_cons a2, ← a8 x, rel x], by simp⟩
    · rw [List.map_cons, List.nodup_cons]
      refine ⟨fun h => ?_, hL.keys⟩
      obtain ⟨e', he, h⟩ := List.mem_map.1 h
      exact a2 e' he h
    · intro e he; rcases List.mem_cons.1 he with rfl | he
      · exact a3
      · exact hL.lt e he
    · intro e he; rcases List.mem_cons.1 he with rfl | he
      · exact a4
      · exact hL.len e he
    · intro e he; rcases List.mem_cons.1 he with rfl | he
      · exact a5
      · exact hL.rg e he
    · intro e he; rcases List.mem_cons.1 he with rfl | he
      · exact a6
      · exact hL.one e he
    · intro e he; rcases List.mem_cons.1 he with rfl | he
      · exact a7
      · exact hL.zero e he

theorem Ech.nil (p n : Nat) : Ech p n [] := ⟨by simp, by simp, by simp, by simp, by simp, by simp⟩

/-- How many rows there are. -/
theorem Ech.count {p n : Nat} {L : List (Nat × List Int)} (h : Ech p n L) : mpLen (dOf L) = L.length := by
  have key : ∀ (L : List (Nat × List Int)) (z : Int), z ∈ L.map (fun e => (e.1 : Int)) ↔ dOf L z = true := by
    intro L z
    induction L with
    | nil => simp [dOf]
    | cons e L ih => simp only [List.map_cons, List.mem_cons, dOf, Bool.or_eq_true, beq_iff_eq, ih]
  rw [mpLen_eq (l := L.map fun e => (e.1 : Int)) ?_ (key L), List.length_map]
  have := h.keys
  rw [show (L.map fun e => (e.1 : Int)) = (L.map (·.1)).map (fun k : Nat => (k : Int)) by rw [List.map_map]; rfl]
  exact List.pairwise_map.2 (List.Pairwise.imp (fun h e => h (by omega)) this)

end Go.Proofs.YtjbfkdaodfdpcaaDoor

/-
  Walks: extensions: what is looked at; cocycles; bounds; spans. Conditions: none.
-/
set_option linter.all false
namespace Go.Proofs.YtjbfkdaodfdpcaaDoor
open Go.Pv

theorem xfault_c (c a : Int) : FnC Tryd.prog 95 [.int .i64 c, .int .i64 a] (fl (c, a)) := by
  refine fnc_of tab_ok Tryd.func95 rfl (by kernel_rfl) (by rw [Tryd.ntmps95]; exact Nat.le_add_left 2 _) ?_; rw [Tryd.ntmps95]
  refine qm ?_
  refine hk_region fun K hK => runs_eval tab_ok ?_
  simp only [ev0, evA, evB, evP, fl, gp, tab, simprocAttr, reduceCtorEq, reduceIte]
  refine fin_run ?_ (hK _ ?_) <;> clear hK <;> clear K
  · (first | exact trivial | omega | (simp only [In64] at *; omega) | (simp [In64] at *; omega) | (simp_all; done) | skip)
  refine qa (qm ?_)
  refine hk_region fun K hK => runs_eval tab_ok ?_
  simp only [ev0, evA, evB, evP, fl, gp, tab, simprocAttr, reduceCtorEq, reduceIte]
  refine fin_run ?_ (hK _ ?_) <;> clear hK <;> clear K
  · (first | exact trivial | omega | (simp only [In64] at *; omega) | (simp [In64] at *; omega) | (simp_all; done) | skip)
  refine qa (qk ?_)
  simp only [Tryd.results95, enA, ev0, evA, evB, evP, fl, gp, tab, simprocAttr, reduceCtorEq, reduceIte]
  all_goals (rfl)

/-- The fault of a group and a prime. -/
def xf (N : Int) (m : List Int) (p : Int) : Int × Int :=
  if ¬ (gf N m).1 = 0 then gf N m else if N > 12 then (2, 0) else if ¬ (p = 2 ∨ p = 3 ∨ p = 5 ∨ p = 7) then (3, 1) else (0, 0)

theorem ix4 (p : Int) : ix [2, 3, 5, 7] p ≥ 0 ↔ p = 2 ∨ p = 3 ∨ p = 5 ∨ p = 7 := by
  rw [ix_mem]
  constructor
  · rintro ⟨i, hi, e⟩
    match i, hi with
    | 0, _ => exact .inl (by simpa using e.symm)
    | 1, _ => exact .inr (.inl (by simpa using e.symm))
    | 2, _ => exact .inr (.inr (.inl (by simpa using e.symm)))
    | 3, _ => exact .inr (.inr (.inr (by simpa using e.symm)))
  · rintro (h | h | h | h)
    · exact ⟨0, by simp, by simp [h]⟩
    · exact ⟨1, by simp, by simp [h]⟩
    · exact ⟨2, by simp, by simp [h]⟩
    · exact ⟨3, by simp, by simp [h]⟩

theorem xlook_c (N : Int) (m : List Int) (p : Int) (hm : m.length ≤ 1000000000000000) : FnC Tryd.prog 102 [gp N m, .int .i64 p] (fl (xf N m p)) := by
  refine fnc_of tab_ok Tryd.func102 rfl (by kernel_rfl) (by rw [Tryd.ntmps102]; exact Nat.le_add_left 2 _) ?_; rw [Tryd.ntmps102]
  refine qm ?_
  refine hk_region fun K hK => runs_eval tab_ok ?_
  simp only [ev0, evA, evB, evP, fl, gp, tab, simprocAttr, reduceCtorEq, reduceIte]
  refine fin_run ?_ (hK _ ?_) <;> clear hK <;> clear K
  · (first | exact trivial | omega | (simp only [In64] at *; omega) | (simp [In64] at *; omega) | (simp_all; done) | skip)
  refine qa (qm (qm ?_))
  refine hk_region fun K hK => runs_eval tab_ok ?_
  simp only [ev0, evA, evB, evP, fl, gp, tab, simprocAttr, reduceCtorEq, reduceIte]
  refine fin_stop trivial (runs_call (check_c N m hm) rfl rfl rfl (by simp only [dstOk, Nat.reduceLT]) (by repeat (first | exact trivial | constructor)) (runs_eval tab_ok ?_))
  simp only [ev0, evA, evB, evP, fl, gp, tab, simprocAttr, reduceCtorEq, reduceIte]
  refine fin_run ?_ (hK _ ?_) <;> clear hK <;> clear K
  · (first | exact trivial | omega | (simp only [In64] at *; omega) | (simp [In64] at *; omega) | (simp_all; done) | skip)
  refine qa (qm ?_)
  refine hk_region fun K hK => runs_eval tab_ok ?_
  simp only [ev0, evA, evB, evP, fl, gp, tab, simprocAttr, reduceCtorEq, reduceIte]
  refine fin_run ?_ (hK _ ?_) <;> clear hK <;> clear K
  · (first | exact trivial | omega | (simp only [In64] at *; omega) | (simp [In64] at *; omega) | (simp_all; done) | skip)
  refine qa ?_
  refine hk_cond rfl (fun hC1 => ?_) (fun hC1 => ?_)
  · (try simp only [nhs] at hC1)
    refine qm ?_
    refine hk_region fun K hK => runs_eval tab_ok ?_
    simp only [ev0, evA, evB, evP, fl, gp, tab, simprocAttr, reduceCtorEq, reduceIte]
    refine fin_run ?_ (hK _ ?_) <;> clear hK <;> clear K
    · (first | exact trivial | omega | (simp only [In64] at *; omega) | (simp [In64] at *; omega) | (simp_all; done) | skip)
    refine qa (qk (qb ?_))
    simp only [Tryd.results102, enA, ev0, evA, evB, evP, fl, gp, tab, simprocAttr, reduceCtorEq, reduceIte]
    all_goals (unfold xf; rw [if_pos hC1]; simp)
  · (try simp only [nhs] at hC1)
    refine qh (qa (qm (qm ?_)))
    refine hk_region fun K hK => runs_eval tab_ok ?_
    simp only [ev0, evA, evB, evP, fl, gp, tab, simprocAttr, reduceCtorEq, reduceIte]
    refine fin_run ?_ (hK _ ?_) <;> clear hK <;> clear K
    · (first | exact trivial | omega | (simp only [In64] at *; omega) | (simp [In64] at *; omega) | (simp_all; done) | skip)
    refine qa ?_
    refine hk_cond rfl (fun hC2 => ?_) (fun hC2 => ?_)
    · (try simp only [nhs] at hC2)
      refine qm ?_
      refine hk_region fun K hK => runs_eval tab_ok ?_
      simp only [ev0, evA, evB, evP, fl, gp, tab, simprocAttr, reduceCtorEq, reduceIte]
      refine fin_stop trivial (runs_call (xfault_c 2 0) rfl rfl rfl (by simp only [dstOk, Nat.reduceLT]) (by repeat (first | exact trivial | constructor)) (runs_eval tab_ok ?_))
      simp only [ev0, evA, evB, evP, fl, gp, tab, simprocAttr, reduceCtorEq, reduceIte]
      refine fin_run ?_ (hK _ ?_) <;> clear hK <;> clear K
      · (first | exact trivial | omega | (simp only [In64] at *; omega) | (simp [In64] at *; omega) | (simp_all; done) | skip)
      refine qa (qk (qb ?_))
      simp only [Tryd.results102, enA, ev0, evA, evB, evP, fl, gp, tab, simprocAttr, reduceCtorEq, reduceIte]
      all_goals (unfold xf; rw [if_neg (by simpa using hC1), if_pos hC2]; simp)
    · (try simp only [nhs] at hC2)
      refine qh (qa (qm (qm ?_)))
      refine hk_region fun K hK => runs_eval tab_ok ?_
      simp only [ev0, evA, evB, evP, fl, gp, tab, simprocAttr, reduceCtorEq, reduceIte]
      refine fin_stop trivial (runs_call (FnC.sub (args' := [.nn (il [2, 3, 5, 7]), .int .i64 p]) (contains_c [2, 3, 5, 7] p (by decide)) (And.intro (.nn _) (And.intro (.same _) trivial))) rfl rfl rfl (by simp only [dstOk, Nat.reduceLT]) (by repeat (first | exact trivial | constructor)) (runs_eval tab_ok ?_))
      simp only [ev0, evA, evB, evP, fl, gp, tab, simprocAttr, reduceCtorEq, reduceIte]
      refine fin_run ?_ (hK _ ?_) <;> clear hK <;> clear K
      · (first | exact trivial | omega | (simp only [In64] at *; omega) | (simp [In64] at *; omega) | (simp_all; done) | skip)
      refine qa ?_
      refine hk_cond rfl (fun hC3 => ?_) (fun hC3 => ?_)
      · (try simp only [nhs] at hC3)
        refine qm ?_
        refine hk_region fun K hK => runs_eval tab_ok ?_
        simp only [ev0, evA, evB, evP, fl, gp, tab, simprocAttr, reduceCtorEq, reduceIte]
        refine fin_stop trivial (runs_call (xfault_c 3 1) rfl rfl rfl (by simp only [dstOk, Nat.reduceLT]) (by repeat (first | exact trivial | constructor)) (runs_eval tab_ok ?_))
        simp only [ev0, evA, evB, evP, fl, gp, tab, simprocAttr, reduceCtorEq, reduceIte]
        refine fin_run ?_ (hK _ ?_) <;> clear hK <;> clear K
        · (first | exact trivial | omega | (simp only [In64] at *; omega) | (simp [In64] at *; omega) | (simp_all; done) | skip)
        refine qa (qk (qb ?_))
        simp only [Tryd.results102, enA, ev0, evA, evB, evP, fl, gp, tab, simprocAttr, reduceCtorEq, reduceIte]
        all_goals (unfold xf; rw [if_neg (by simpa using hC1), if_neg hC2, if_pos (by rw [← ix4]; exact hC3)]; simp)
      · (try simp only [nhs] at hC3)
        refine qh (qa (qm ?_))
        refine hk_region fun K hK => runs_eval tab_ok ?_
        simp only [ev0, evA, evB, evP, fl, gp, tab, simprocAttr, reduceCtorEq, reduceIte]
        refine fin_run ?_ (hK _ ?_) <;> clear hK <;> clear K
        · (first | exact trivial | omega | (simp only [In64] at *; omega) | (simp [In64] at *; omega) | (simp_all; done) | skip)
        refine qa (qk ?_)
        simp only [Tryd.results102, enA, ev0, evA, evB, evP, fl, gp, tab, simprocAttr, reduceCtorEq, reduceIte]
        all_goals (unfold xf; rw [if_neg (by simpa using hC1), if_neg hC2, if_neg (by rw [← ix4]; simpa using hC3)]; simp)

theorem xf_ok {N : Int} {m : List Int} {p : Int} (h : (xf N m p).1 = 0) : ∃ (n e q : Nat), GT N m n e ∧ n ≤ 12 ∧ p = (q : Int) ∧ pr q ∧ xf N m p = (0, 0) := by
  unfold xf at h ⊢
  by_cases h1 : (gf N m).1 = 0
  · rw [if_neg (by simpa using h1)] at h ⊢
    by_cases h2 : N > 12
    · rw [if_pos h2] at h; simp at h
    · rw [if_neg h2] at h ⊢
      by_cases h3 : p = 2 ∨ p = 3 ∨ p = 5 ∨ p = 7
      · rw [if_neg (fun h => h h3)]
        obtain ⟨n, e, hg, _⟩ := gf_ok h1
        obtain rfl := hg.1
        exact ⟨n, e, p.toNat, hg, by omega, by omega, by unfold pr; omega, rfl⟩
      · rw [if_pos h3] at h; simp at h
  · rw [if_pos h1] at h; exact absurd h h1

theorem xf_of {n e : Nat} {m : List Int} {q : Nat} (h : GT n m n e) (hn : n ≤ 12) (hq : pr q) : xf n m q = (0, 0) := by
  unfold xf
  rw [if_neg (by rw [gf_of h]; simp), if_neg (by omega), if_neg (by unfold pr at hq; omega)]

/-! ### Cocycles -/

/-- A list, as a rule of two things. -/
def F2 (n : Nat) (f : List Int) (a b : Nat) : Int := f.getD (a * n + b) 0

def coc (n : Nat) (m : List Int) (p : Nat) (f : List Int) (a b c : Nat) : Prop :=
  (F2 n f b c + F2 n f a (op m n b c)) % (p : Int) = (F2 n f (op m n a b) c + F2 n f a b) % (p : Int)
instance (n : Nat) (m : List Int) (p : Nat) (f : List Int) (a b c : Nat) : Decidable (coc n m p f a b c) := by unfold coc; infer_instance
def cocA (n : Nat) (m : List Int) (p : Nat) (f : List Int) (a : Nat) : Prop := ∀ b, b < n → ∀ c, c < n → coc n m p f a b c
instance (n : Nat) (m : List Int) (p : Nat) (f : List Int) (a : Nat) : Decidable (cocA n m p f a) := by unfold cocA; infer_instance

theorem emod_iff {p : Int} (x y : Int) : x % p = y % p ↔ p ∣ x - y := by
  rw [Int.emod_eq_emod_iff_emod_sub_eq_zero, Int.dvd_iff_emod_eq_zero]

theorem coc_iff {n : Nat} {m : List Int} {p : Nat} {f : List Int} {a b c : Nat} (hp : 0 < p) :
    Int.tmod (F2 n f b c - F2 n f (op m n a b) c + F2 n f a (op m n b c) - F2 n f a b) p = 0 ↔ coc n m p f a b c := by
  unfold coc
  rw [emod_iff, ← Int.dvd_iff_tmod_eq_zero]
  rw [show F2 n f b c + F2 n f a (op m n b c) - (F2 n f (op m n a b) c + F2 n f a b) = F2 n f b c - F2 n f (op m n a b) c + F2 n f a (op m n b c) - F2 n f a b by omega]

def clI (n : Nat) (m : List Int) (p : Nat) (f : List Int) : Int := match fst' (fun a => decide (¬ cocA n m p f a)) n with | some a => (a : Int) | none => -1

theorem closed_x {n e p : Nat} {m : List Int} (h : GT n m n e) (hn : n ≤ 12) (hp : pr p) (f : List Int) (hf : f.length = n * n) (hr : rng p f) :
    FnC Tryd.prog 150 [gp n m, .int .i64 p, .list (il f)] (.int .i64 (clI n m p f)) := by
  have T := h.2.1
  have hp2 := hp.le
  have hsq : n * n ≤ 144 := Nat.mul_le_mul hn hn
  have hF : ∀ {a b}, a < n → b < n → 0 ≤ F2 n f a b ∧ F2 n f a b < p := fun ha hb => hr _ (by have := at_lt ha hb; omega)
  have hgt : ∀ {a b}, a < n → b < n → (il f).getD (a * n + b) default = .int .i64 (F2 n f a b) := fun ha hb => il_get (by have := at_lt ha hb; omega)
  refine fnc_of tab_ok Tryd.func150 rfl (by kernel_rfl) (by rw [Tryd.ntmps150]; exact Nat.le_add_left 3 _) ?_; rw [Tryd.ntmps150]
  refine qm ?_
  refine hk_region fun K hK => runs_eval tab_ok ?_
  simp only [ev0, evA, evB, evP, fl, gp, tab, simprocAttr, reduceCtorEq, reduceIte]
  refine fin_run ?_ (hK _ ?_) <;> clear hK <;> clear K
  · (first | exact trivial | omega | (simp only [In64] at *; omega) | (simp [In64] at *; omega) | (simp_all; done) | skip)
  refine qa (qm (qm ?_))
  refine hk_region fun K hK => runs_eval tab_ok ?_
  simp only [ev0, evA, evB, evP, fl, gp, tab, simprocAttr, reduceCtorEq, reduceIte]
  refine fin_run ?_ (hK _ ?_) <;> clear hK <;> clear K
  · (first | exact trivial | omega | (simp only [In64] at *; omega) | (simp [In64] at *; omega) | (simp_all; done) | skip)
  refine qa (ql ?_)
  refine hk_loop (ι := Nat) (fun a => ⟨79, [(1, .p (.int .i64 p)), (2, .p (.list (il f))), (3, .ptr 0 0), (12, .p (.int .i64 n)), (13, .p (.int .i64 a))], [.own [.p (.int .i64 n), .p (.list (il m))]]⟩) (fun a => a ≤ n ∧ ∀ j, j < a → cocA n m p f j) (fun a => n - a) 0 ⟨Nat.zero_le _, fun j hj => by omega⟩ [0] (by simp only [leq, leA, ev0, evA, evB, evP, fl, gp, tab, simprocAttr, reduceCtorEq, reduceIte] <;> trivial) fun a ha => ?_
  obtain ⟨ha1, ha2⟩ := ha
  refine qm ?_
  refine hk_region fun K hK => runs_eval tab_ok ?_
  simp only [ev0, evA, evB, evP, fl, gp, tab, simprocAttr, reduceCtorEq, reduceIte]
  refine fin_run trivial (hK _ ?_) <;> clear hK <;> clear K
  refine qa (qm ?_)
  refine hk_cond rfl (fun hC1 => ?_) (fun hC1 => ?_)
  · (try simp only [nhs] at hC1)
    have hal : a < n := by omega
    refine qh (qa (qm (ql (qm ?_))))
    refine hk_region fun K hK => runs_eval tab_ok ?_
    simp only [ev0, evA, evB, evP, fl, gp, tab, simprocAttr, reduceCtorEq, reduceIte]
    refine fin_run trivial (hK _ ?_) <;> clear hK <;> clear K
    refine qa (qm ?_)
    refine hk_region fun K hK => runs_eval tab_ok ?_
    simp only [ev0, evA, evB, evP, fl, gp, tab, simprocAttr, reduceCtorEq, reduceIte]
    refine fin_run ?_ (hK _ ?_) <;> clear hK <;> clear K
    · (first | exact trivial | omega | (simp only [In64] at *; omega) | (simp [In64] at *; omega) | (simp_all; done) | skip)
    refine qa (ql ?_)
    refine hk_loop (ι := Nat) (fun b => ⟨79, [(1, .p (.int .i64 p)), (2, .p (.list (il f))), (3, .ptr 0 0), (7, .p (.int .i64 a)), (12, .p (.int .i64 n)), (13, .p (.int .i64 a)), (17, .p (.int .i64 n)), (18, .p (.int .i64 b))], [.own [.p (.int .i64 n), .p (.list (il m))]]⟩) (fun b => b ≤ n ∧ ∀ j, j < b → ∀ c, c < n → coc n m p f a j c) (fun b => n - b) 0 ⟨Nat.zero_le _, fun j hj => by omega⟩ [0] (by simp only [leq, leA, ev0, evA, evB, evP, fl, gp, tab, simprocAttr, reduceCtorEq, reduceIte] <;> trivial) fun b hb => ?_
    obtain ⟨hb1, hb2⟩ := hb
    refine qm ?_
    refine hk_region fun K hK => runs_eval tab_ok ?_
    simp only [ev0, evA, evB, evP, fl, gp, tab, simprocAttr, reduceCtorEq, reduceIte]
    refine fin_run trivial (hK _ ?_) <;> clear hK <;> clear K
    refine qa (qm ?_)
    refine hk_cond rfl (fun hC2 => ?_) (fun hC2 => ?_)
    · (try simp only [nhs] at hC2)
      have hbl : b < n := by omega
      refine qh (qa (qm (ql (qm ?_))))
      refine hk_region fun K hK => runs_eval tab_ok ?_
      simp only [ev0, evA, evB, evP, fl, gp, tab, simprocAttr, reduceCtorEq, reduceIte]
      refine fin_run trivial (hK _ ?_) <;> clear hK <;> clear K
      refine qa (qm ?_)
      refine hk_region fun K hK => runs_eval tab_ok ?_
      simp only [ev0, evA, evB, evP, fl, gp, tab, simprocAttr, reduceCtorEq, reduceIte]
      refine fin_run ?_ (hK _ ?_) <;> clear hK <;> clear K
      · (first | exact trivial | omega | (simp only [In64] at *; omega) | (simp [In64] at *; omega) | (simp_all; done) | skip)
      refine qa (ql ?_)
      refine hk_loop (ι := Nat) (fun c => ⟨79, [(1, .p (.int .i64 p)), (2, .p (.list (il f))), (3, .ptr 0 0), (7, .p (.int .i64 a)), (8, .p (.int .i64 b)), (12, .p (.int .i64 n)), (13, .p (.int .i64 a)), (17, .p (.int .i64 n)), (18, .p (.int .i64 b)), (22, .p (.int .i64 n)), (23, .p (.int .i64 c))], [.own [.p (.int .i64 n), .p (.list (il m))]]⟩) (fun c => c ≤ n ∧ ∀ j, j < c → coc n m p f a b j) (fun c => n - c) 0 ⟨Nat.zero_le _, fun j hj => by omega⟩ [0] (by simp only [leq, leA, ev0, evA, evB, evP, fl, gp, tab, simprocAttr, reduceCtorEq, reduceIte] <;> trivial) fun c hc => ?_
      obtain ⟨hc1, hc2⟩ := hc
      refine qm ?_
      refine hk_region fun K hK => runs_eval tab_ok ?_
      simp only [ev0, evA, evB, evP, fl, gp, tab, simprocAttr, reduceCtorEq, reduceIte]
      refine fin_run trivial (hK _ ?_) <;> clear hK <;> clear K
      refine qa (qm ?_)
      refine hk_cond rfl (fun hC3 => ?_) (fun hC3 => ?_)
      · (try simp only [nhs] at hC3)
        have hcl : c < n := by omega
        have hab := T.lt hal hbl
        have hbc := T.lt hbl hcl
        have e1 := at_lt hbl hcl
        have e2 := at_lt hab hcl
        have e3 := at_lt hal hbc
        have e4 := at_lt hal hbl
        have b1 := hF hbl hcl
        have b2 := hF hab hcl
        have b3 := hF hal hbc
        have b4 := hF hal hbl
        have c1 : (b : Int) * (n : Int) = ((b * n : Nat) : Int) := (Int.natCast_mul b n).symm
        have c2 : ((op m n a b : Nat) : Int) * (n : Int) = ((op m n a b * n : Nat) : Int) := (Int.natCast_mul _ n).symm
        have c3 : (a : Int) * (n : Int) = ((a * n : Nat) : Int) := (Int.natCast_mul a n).symm
        refine qh (qa (qm (ql (qm ?_))))
        refine hk_region fun K hK => runs_eval tab_ok ?_
        simp only [ev0, evA, evB, evP, fl, gp, tab, simprocAttr, reduceCtorEq, reduceIte]
        refine fin_run trivial (hK _ ?_) <;> clear hK <;> clear K
        refine qa (qm ?_)
        refine hk_draw mixed (by kernel_rfl) fun K hK => runs_eval tab_ok ?_
        simp only [ev0, evA, evB, evP, fl, gp, tab, simprocAttr, reduceCtorEq, reduceIte, at_nat, hgt hbl hcl, hgt hab hcl, hgt hal hbc, hgt hal hbl]
        refine fin_stop ?_ (runs_call (of_c T hal hbl) rfl rfl rfl (by simp only [dstOk, Nat.reduceLT]) (by repeat (first | exact trivial | constructor)) (runs_eval tab_ok ?_))
        · simp only [c1, In64]; omega
        simp only [ev0, evA, evB, evP, fl, gp, tab, simprocAttr, reduceCtorEq, reduceIte, at_nat, hgt hbl hcl, hgt hab hcl, hgt hal hbc, hgt hal hbl]
        refine fin_stop ?_ (runs_call (of_c T hbl hcl) rfl rfl rfl (by simp only [dstOk, Nat.reduceLT]) (by repeat (first | exact trivial | constructor)) (runs_eval tab_ok ?_))
        · simp only [c2, c3, In64]; omega
        simp only [ev0, evA, evB, evP, fl, gp, tab, simprocAttr, reduceCtorEq, reduceIte, at_nat, hgt hbl hcl, hgt hab hcl, hgt hal hbc, hgt hal hbl]
        refine fin_run ?_ (hK _ ?_) <;> clear hK <;> clear K
        · simp only [c3, In64]; omega
        refine qa (qm ?_)
        refine hk_region fun K hK => runs_eval tab_ok ?_
        simp only [ev0, evA, evB, evP, fl, gp, tab, simprocAttr, reduceCtorEq, reduceIte]
        refine fin_run ?_ (hK _ ?_) <;> clear hK <;> clear K
        · (first | exact trivial | omega | (simp only [In64] at *; omega) | (simp [In64] at *; omega) | (simp_all; done) | skip)
        refine qa ?_
        refine hk_cond rfl (fun hC4 => ?_) (fun hC4 => ?_)
        · (try simp only [nhs] at hC4)
          refine qm ?_
          refine hk_region fun K hK => runs_eval tab_ok ?_
          simp only [ev0, evA, evB, evP, fl, gp, tab, simprocAttr, reduceCtorEq, reduceIte]
          refine fin_run trivial (hK _ ?_) <;> clear hK <;> clear K
          refine qa (qk (qe (qb (qb (qe (qe (qb (qb (qe (qe (qb (qb (qe (qb ?_))))))))))))))
          simp only [Tryd.results150, enA, ev0, evA, evB, evP, fl, gp, tab, simprocAttr, reduceCtorEq, reduceIte]
          all_goals (unfold clI; rw [fst_some (p := fun a => decide (¬ cocA n m p f a)) hal (decide_eq_true fun hh => hC4 ((coc_iff (by omega)).2 (hh b hbl c hcl))) fun j hj => decide_eq_false (by simpa using ha2 j hj)])
        · (try simp only [nhs] at hC4)
          have hok : coc n m p f a b c := (coc_iff (by omega)).1 (by simpa using hC4)
          refine qh (qd (qa ?_))
          refine hk_region fun K hK => runs_eval tab_ok ?_
          simp only [ev0, evA, evB, evP, fl, gp, tab, simprocAttr, reduceCtorEq, reduceIte]
          refine fin_run ?_ (hK _ ?_) <;> clear hK <;> clear K
          · (first | exact trivial | omega | (simp only [In64] at *; omega) | (simp [In64] at *; omega) | (simp_all; done) | skip)
          refine qa ?_
          refine ⟨c + 1, [0], ⟨by omega, fun j hj => ?_⟩, by omega, ?_⟩
          · by_cases hj : j = c
            · subst hj; exact hok
            · exact hc2 j (by omega)
          · simp only [leq, leA, ev0, evA, evB, evP, fl, gp, tab, simprocAttr, reduceCtorEq, reduceIte] <;> omega
      · (try simp only [nhs] at hC3)
        refine qj (qc (qc (qf (qd (qa ?_)))))
        refine hk_region fun K hK => runs_eval tab_ok ?_
        simp only [ev0, evA, evB, evP, fl, gp, tab, simprocAttr, reduceCtorEq, reduceIte]
        refine fin_run ?_ (hK _ ?_) <;> clear hK <;> clear K
        · (first | exact trivial | omega | (simp only [In64] at *; omega) | (simp [In64] at *; omega) | (simp_all; done) | skip)
        refine qa ?_
        refine ⟨b + 1, [0], ⟨by omega, fun j hj => ?_⟩, by omega, ?_⟩
        · by_cases hj : j = b
          · subst hj; exact fun q hq => hc2 q (by omega)
          · exact hb2 j (by omega)
        · simp only [leq, leA, ev0, evA, evB, evP, fl, gp, tab, simprocAttr, reduceCtorEq, reduceIte] <;> omega
    · (try simp only [nhs] at hC2)
      refine qj (qc (qc (qf (qd (qa ?_)))))
      refine hk_region fun K hK => runs_eval tab_ok ?_
      simp only [ev0, evA, evB, evP, fl, gp, tab, simprocAttr, reduceCtorEq, reduceIte]
      refine fin_run ?_ (hK _ ?_) <;> clear hK <;> clear K
      · (first | exact trivial | omega | (simp only [In64] at *; omega) | (simp [In64] at *; omega) | (simp_all; done) | skip)
      refine qa ?_
      refine ⟨a + 1, [0], ⟨by omega, fun j hj => ?_⟩, by omega, ?_⟩
      · by_cases hj : j = a
        · subst hj; exact fun q hq => hb2 q (by omega)
        · exact ha2 j (by omega)
      · simp only [leq, leA, ev0, evA, evB, evP, fl, gp, tab, simprocAttr, reduceCtorEq, reduceIte] <;> omega
  · (try simp only [nhs] at hC1)
    refine qj (qc (qc (qf (qa (qm ?_)))))
    refine hk_region fun K hK => runs_eval tab_ok ?_
    simp only [ev0, evA, evB, evP, fl, gp, tab, simprocAttr, reduceCtorEq, reduceIte]
    refine fin_run trivial (hK _ ?_) <;> clear hK <;> clear K
    refine qa (qk ?_)
    simp only [Tryd.results150, enA, ev0, evA, evB, evP, fl, gp, tab, simprocAttr, reduceCtorEq, reduceIte]
    all_goals (unfold clI; rw [fst_none (p := fun a => decide (¬ cocA n m p f a)) fun j hj => decide_eq_false (by simpa using ha2 j (by omega))])

/-- The fault of a list. -/
def cf (n : Nat) (m : List Int) (p : Nat) (f : List Int) : Int × Int :=
  if ¬ f.length = n * n then (8, 0)
  else match fst' (fun i => decide (f.getD i 0 < 0 ∨ f.getD i 0 ≥ p)) f.length with
    | some i => (5, (i : Int))
    | none => match fst' (fun a => decide (¬ cocA n m p f a)) n with | some a => (7, (a : Int)) | none => (0, 0)

theorem cf_8 {n : Nat} {m : List Int} {p : Nat} {f : List Int} (h : ¬ f.length = n * n) : cf n m p f = (8, 0) := by unfold cf; rw [if_pos h]
theorem cf_5 {n : Nat} {m : List Int} {p : Nat} {f : List Int} {i : Nat} (h : f.length = n * n) (hi : i < f.length) (h1 : f.getD i 0 < 0 ∨ f.getD i 0 ≥ p) (h2 : ∀ j, j < i → 0 ≤ f.getD j 0 ∧ f.getD j 0 < p) : cf n m p f = (5, (i : Int)) := by
  unfold cf
  rw [if_neg (by simpa using h), fst_some (p := fun i => decide (f.getD i 0 < 0 ∨ f.getD i 0 ≥ p)) hi (decide_eq_true h1) fun j hj => decide_eq_false (by have := h2 j hj; omega)]
theorem cf_r {n : Nat} {m : List Int} {p : Nat} {f : List Int} (h : f.length = n * n) (h2 : rng p f) : cf n m p f = match fst' (fun a => decide (¬ cocA n m p f a)) n with | some a => (7, (a : Int)) | none => (0, 0) := by
  unfold cf
  rw [if_neg (by simpa using h), fst_none (p := fun i => decide (f.getD i 0 < 0 ∨ f.getD i 0 ≥ p)) fun j hj => decide_eq_false (by have := h2 j hj; omega)]
theorem cf_0 {n : Nat} {m : List Int} {p : Nat} {f : List Int} (h : (cf n m p f).1 = 0) : f.length = n * n ∧ rng p f ∧ (∀ a, a < n → cocA n m p f a) ∧ cf n m p f = (0, 0) := by
  by_cases h1 : f.length = n * n
  · have hr : rng p f := by
      unfold cf at h
      rw [if_neg (by simpa using h1)] at h
      cases h2 : fst' (fun i => decide (f.getD i 0 < 0 ∨ f.getD i 0 ≥ p)) f.length with
      | some i => rw [h2] at h; simp at h
      | none =>
        intro t ht
        have := of_decide_eq_false (fst_spec0 h2 t ht)
        omega
    rw [cf_r h1 hr] at h ⊢
    cases h3 : fst' (fun a => decide (¬ cocA n m p f a)) n with
    | some a => rw [h3] at h; simp at h
    | none => exact ⟨h1, hr, fun a ha => Classical.not_not.1 (of_decide_eq_false (fst_spec0 h3 a ha)), rfl⟩
  · rw [cf_8 h1] at h; simp at h
theorem cf_of {n : Nat} {m : List Int} {p : Nat} {f : List Int} (h1 : f.length = n * n) (h2 : rng p f) (h3 : ∀ a, a < n → cocA n m p f a) : cf n m p f = (0, 0) := by
  rw [cf_r h1 h2, fst_none (p := fun a => decide (¬ cocA n m p f a)) fun j hj => decide_eq_false (by simpa using h3 j hj)]

theorem xlist_c {n e p : Nat} {m : List Int} (h : GT n m n e) (hn : n ≤ 12) (hp : pr p) (f : List Int) (hf : f.length ≤ 1000000000000000) :
    FnC Tryd.prog 103 [gp n m, .int .i64 p, .list (il f)] (fl (cf n m p f)) := by
  have hsq : n * n ≤ 144 := Nat.mul_le_mul hn hn
  have c1 : (n : Int) * (n : Int) = ((n * n : Nat) : Int) := (Int.natCast_mul n n).symm
  refine fnc_of tab_ok Tryd.func103 rfl (by kernel_rfl) (by rw [Tryd.ntmps103]; exact Nat.le_add_left 3 _) ?_; rw [Tryd.ntmps103]
  refine qm ?_
  refine hk_region fun K hK => runs_eval tab_ok ?_
  simp only [ev0, evA, evB, evP, fl, gp, tab, simprocAttr, reduceCtorEq, reduceIte]
  refine fin_run ?_ (hK _ ?_) <;> clear hK <;> clear K
  · (first | exact trivial | omega | (simp only [In64] at *; omega) | (simp [In64] at *; omega) | (simp_all; done) | skip)
  refine qa (qm (qm ?_))
  refine hk_region fun K hK => runs_eval tab_ok ?_
  simp only [ev0, evA, evB, evP, fl, gp, tab, simprocAttr, reduceCtorEq, reduceIte]
  refine fin_run ?_ (hK _ ?_) <;> clear hK <;> clear K
  · rw [c1]; simp only [In64]; omega
  refine qa ?_
  refine hk_cond rfl (fun hC1 => ?_) (fun hC1 => ?_)
  · (try simp only [nhs] at hC1)
    have hne : ¬ f.length = n * n := by omega
    refine qm ?_
    refine hk_region fun K hK => runs_eval tab_ok ?_
    simp only [ev0, evA, evB, evP, fl, gp, tab, simprocAttr, reduceCtorEq, reduceIte]
    refine fin_stop trivial (runs_call (xfault_c 8 0) rfl rfl rfl (by simp only [dstOk, Nat.reduceLT]) (by repeat (first | exact trivial | constructor)) (runs_eval tab_ok ?_))
    simp only [ev0, evA, evB, evP, fl, gp, tab, simprocAttr, reduceCtorEq, reduceIte]
    refine fin_run ?_ (hK _ ?_) <;> clear hK <;> clear K
    · (first | exact trivial | omega | (simp only [In64] at *; omega) | (simp [In64] at *; omega) | (simp_all; done) | skip)
    refine qa (qk (qb ?_))
    simp only [Tryd.results103, enA, ev0, evA, evB, evP, fl, gp, tab, simprocAttr, reduceCtorEq, reduceIte]
    all_goals (rw [cf_8 hne]; simp)
  · (try simp only [nhs] at hC1)
    have hfl : f.length = n * n := by omega
    refine qh (qa (qm (qm ?_)))
    refine hk_region fun K hK => runs_eval tab_ok ?_
    simp only [ev0, evA, evB, evP, fl, gp, tab, simprocAttr, reduceCtorEq, reduceIte]
    refine fin_run trivial (hK _ ?_) <;> clear hK <;> clear K
    refine qa (ql ?_)
    refine hk_loop (ι := Nat) (fun i => ⟨45, [(1, .p (.int .i64 p)), (2, .p (.list (il f))), (3, .ptr 0 0), (6, .ptr 1 0), (19, .p (.list (il f))), (20, .p (.int .i64 f.length)), (21, .p (.int .i64 i))], [.own [.p (.int .i64 n), .p (.list (il m))], .own [.p (.int .i64 0), .p (.int .i64 0)]]⟩) (fun i => i ≤ f.length ∧ ∀ j, j < i → 0 ≤ f.getD j 0 ∧ f.getD j 0 < p) (fun i => f.length - i) 0 ⟨Nat.zero_le _, fun j hj => by omega⟩ [0, 1] (by simp only [leq, leA, ev0, evA, evB, evP, fl, gp, tab, simprocAttr, reduceCtorEq, reduceIte] <;> trivial) fun i hi => ?_
    obtain ⟨hi1, hi2⟩ := hi
    refine qm ?_
    refine hk_region fun K hK => runs_eval tab_ok ?_
    simp only [ev0, evA, evB, evP, fl, gp, tab, simprocAttr, reduceCtorEq, reduceIte]
    refine fin_run trivial (hK _ ?_) <;> clear hK <;> clear K
    refine qa (qm ?_)
    refine hk_cond rfl (fun hC2 => ?_) (fun hC2 => ?_)
    · (try simp only [nhs] at hC2)
      have hlt : i < f.length := by omega
      refine qh (qa (qm (ql (qm ?_))))
      refine hk_region fun K hK => runs_eval tab_ok ?_
      simp only [ev0, evA, evB, evP, fl, gp, tab, simprocAttr, reduceCtorEq, reduceIte, il_get hlt]
      refine fin_run ?_ (hK _ ?_) <;> clear hK <;> clear K
      · (first | exact trivial | omega | (simp only [In64] at *; omega) | (simp [In64] at *; omega) | (simp_all; done) | skip)
      refine qa (qm ?_)
      by_cases g6a : f.getD i 0 < 0
      · refine hk_region fun K hK => runs_eval tab_ok ?_
        simp only [ev0, evA, evB, evP, fl, gp, tab, simprocAttr, reduceCtorEq, reduceIte, decide_eq_true g6a]
        refine fin_run trivial (hK _ ?_) <;> clear hK <;> clear K
        refine qa ?_
        refine hk_cond rfl (fun hC3 => ?_) (fun hC3 => ?_)
        · refine qm ?_
          refine hk_region fun K hK => runs_eval tab_ok ?_
          simp only [ev0, evA, evB, evP, fl, gp, tab, simprocAttr, reduceCtorEq, reduceIte]
          refine fin_stop trivial (runs_call (xfault_c 5 i) rfl rfl rfl (by simp only [dstOk, Nat.reduceLT]) (by repeat (first | exact trivial | constructor)) (runs_eval tab_ok ?_))
          simp only [ev0, evA, evB, evP, fl, gp, tab, simprocAttr, reduceCtorEq, reduceIte]
          refine fin_run ?_ (hK _ ?_) <;> clear hK <;> clear K
          · (first | exact trivial | omega | (simp only [In64] at *; omega) | (simp [In64] at *; omega) | (simp_all; done) | skip)
          refine qa (qk (qe (qb (qb (qe (qb ?_))))))
          simp only [Tryd.results103, enA, ev0, evA, evB, evP, fl, gp, tab, simprocAttr, reduceCtorEq, reduceIte]
          all_goals (rw [cf_5 hfl hlt (.inl g6a) hi2]; simp)
        · cases hC3
      · refine hk_region fun K hK => runs_eval tab_ok ?_
        simp only [ev0, evA, evB, evP, fl, gp, tab, simprocAttr, reduceCtorEq, reduceIte, decide_eq_false g6a]
        refine fin_run trivial (hK _ ?_) <;> clear hK <;> clear K
        refine qa ?_
        refine hk_cond rfl (fun hC3 => ?_) (fun hC3 => ?_)
        · (try simp only [nhs] at hC3)
          refine qm ?_
          refine hk_region fun K hK => runs_eval tab_ok ?_
          simp only [ev0, evA, evB, evP, fl, gp, tab, simprocAttr, reduceCtorEq, reduceIte]
          refine fin_stop trivial (runs_call (xfault_c 5 i) rfl rfl rfl (by simp only [dstOk, Nat.reduceLT]) (by repeat (first | exact trivial | constructor)) (runs_eval tab_ok ?_))
          simp only [ev0, evA, evB, evP, fl, gp, tab, simprocAttr, reduceCtorEq, reduceIte]
          refine fin_run ?_ (hK _ ?_) <;> clear hK <;> clear K
          · (first | exact trivial | omega | (simp only [In64] at *; omega) | (simp [In64] at *; omega) | (simp_all; done) | skip)
          refine qa (qk (qe (qb (qb (qe (qb ?_))))))
          simp only [Tryd.results103, enA, ev0, evA, evB, evP, fl, gp, tab, simprocAttr, reduceCtorEq, reduceIte]
          all_goals (rw [cf_5 hfl hlt (.inr hC3) hi2]; simp)
        · (try simp only [nhs] at hC3)
          refine qh (qd (qa ?_))
          refine hk_region fun K hK => runs_eval tab_ok ?_
          simp only [ev0, evA, evB, evP, fl, gp, tab, simprocAttr, reduceCtorEq, reduceIte]
          refine fin_run ?_ (hK _ ?_) <;> clear hK <;> clear K
          · (first | exact trivial | omega | (simp only [In64] at *; omega) | (simp [In64] at *; omega) | (simp_all; done) | skip)
          refine qa ?_
          refine ⟨i + 1, [0, 1], ⟨by omega, fun j hj => ?_⟩, by omega, ?_⟩
          · by_cases hj : j = i
            · subst hj; omega
            · exact hi2 j (by omega)
          · simp only [leq, leA, ev0, evA, evB, evP, fl, gp, tab, simprocAttr, reduceCtorEq, reduceIte] <;> first | trivial | omega
    · (try simp only [nhs] at hC2)
      have hr : rng p f := fun t ht => hi2 t (by omega)
      refine qj (qc (qc (qf (qa (qm (qm ?_))))))
      refine hk_region fun K hK => runs_eval tab_ok ?_
      simp only [ev0, evA, evB, evP, fl, gp, tab, simprocAttr, reduceCtorEq, reduceIte]
      refine fin_stop trivial (runs_call (closed_x h hn hp f hfl hr) rfl rfl rfl (by simp only [dstOk, Nat.reduceLT]) (by repeat (first | exact trivial | constructor)) (runs_eval tab_ok ?_))
      simp only [ev0, evA, evB, evP, fl, gp, tab, simprocAttr, reduceCtorEq, reduceIte]
      refine fin_run ?_ (hK _ ?_) <;> clear hK <;> clear K
      · (first | exact trivial | omega | (simp only [In64] at *; omega) | (simp [In64] at *; omega) | (simp_all; done) | skip)
      refine qa (qm ?_)
      refine hk_region fun K hK => runs_eval tab_ok ?_
      simp only [ev0, evA, evB, evP, fl, gp, tab, simprocAttr, reduceCtorEq, reduceIte]
      refine fin_run trivial (hK _ ?_) <;> clear hK <;> clear K
      refine qa ?_
      refine hk_cond rfl (fun hC4 => ?_) (fun hC4 => ?_)
      · (try simp only [nhs] at hC4)
        refine qm ?_
        refine hk_region fun K hK => runs_eval tab_ok ?_
        simp only [ev0, evA, evB, evP, fl, gp, tab, simprocAttr, reduceCtorEq, reduceIte]
        refine fin_stop trivial (runs_call (xfault_c 7 (clI n m p f)) rfl rfl rfl (by simp only [dstOk, Nat.reduceLT]) (by repeat (first | exact trivial | constructor)) (runs_eval tab_ok ?_))
        simp only [ev0, evA, evB, evP, fl, gp, tab, simprocAttr, reduceCtorEq, reduceIte]
        refine fin_run ?_ (hK _ ?_) <;> clear hK <;> clear K
        · (first | exact trivial | omega | (simp only [In64] at *; omega) | (simp [In64] at *; omega) | (simp_all; done) | skip)
        refine qa (qk (qb ?_))
        simp only [Tryd.results103, enA, ev0, evA, evB, evP, fl, gp, tab, simprocAttr, reduceCtorEq, reduceIte]
        rw [cf_r hfl hr]; unfold clI at hC4 ⊢; cases h3 : fst' (fun a => decide (¬ cocA n m p f a)) n with
        | some a => simp
        | none => rw [h3] at hC4; simp at hC4
      · (try simp only [nhs] at hC4)
        refine qh (qa (qm ?_))
        refine hk_region fun K hK => runs_eval tab_ok ?_
        simp only [ev0, evA, evB, evP, fl, gp, tab, simprocAttr, reduceCtorEq, reduceIte]
        refine fin_run ?_ (hK _ ?_) <;> clear hK <;> clear K
        · (first | exact trivial | omega | (simp only [In64] at *; omega) | (simp [In64] at *; omega) | (simp_all; done) | skip)
        refine qa (qk ?_)
        simp only [Tryd.results103, enA, ev0, evA, evB, evP, fl, gp, tab, simprocAttr, reduceCtorEq, reduceIte]
        rw [cf_r hfl hr]; unfold clI at hC4; cases h3 : fst' (fun a => decide (¬ cocA n m p f a)) n with
        | some a => rw [h3] at hC4; simp at hC4
        | none => simp

theorem xcheck_no (N : Int) (m : List Int) (p : Int) (f : List Int) (hm : m.length ≤ 1000000000000000) (hx : ¬ (xf N m p).1 = 0) : FnC Tryd.prog 94 [gp N m, .int .i64 p, .list (il f)] (fl (xf N m p)) := by
  refine fnc_of tab_ok Tryd.func94 rfl (by kernel_rfl) (by rw [Tryd.ntmps94]; exact Nat.le_add_left 3 _) ?_; rw [Tryd.ntmps94]
  refine qm ?_
  refine hk_region fun K hK => runs_eval tab_ok ?_
  simp only [ev0, evA, evB, evP, fl, gp, tab, simprocAttr, reduceCtorEq, reduceIte]
  refine fin_run ?_ (hK _ ?_) <;> clear hK <;> clear K
  · (first | exact trivial | omega | (simp only [In64] at *; omega) | (simp [In64] at *; omega) | (simp_all; done) | skip)
  refine qa (qm (qm ?_))
  refine hk_region fun K hK => runs_eval tab_ok ?_
  simp only [ev0, evA, evB, evP, fl, gp, tab, simprocAttr, reduceCtorEq, reduceIte]
  refine fin_stop trivial (runs_call (xlook_c N m p hm) rfl rfl rfl (by simp only [dstOk, Nat.reduceLT]) (by repeat (first | exact trivial | constructor)) (runs_eval tab_ok ?_))
  simp only [ev0, evA, evB, evP, fl, gp, tab, simprocAttr, reduceCtorEq, reduceIte]
  refine fin_run ?_ (hK _ ?_) <;> clear hK <;> clear K
  · (first | exact trivial | omega | (simp only [In64] at *; omega) | (simp [In64] at *; omega) | (simp_all; done) | skip)
  refine qa (qm ?_)
  refine hk_region fun K hK => runs_eval tab_ok ?_
  simp only [ev0, evA, evB, evP, fl, gp, tab, simprocAttr, reduceCtorEq, reduceIte]
  refine fin_run ?_ (hK _ ?_) <;> clear hK <;> clear K
  · (first | exact trivial | omega | (simp only [In64] at *; omega) | (simp [In64] at *; omega) | (simp_all; done) | skip)
  refine qa ?_
  refine hk_cond rfl (fun hC1 => ?_) (fun hC1 => ?_)
  · (try simp only [nhs] at hC1)
    refine qm ?_
    refine hk_region fun K hK => runs_eval tab_ok ?_
    simp only [ev0, evA, evB, evP, fl, gp, tab, simprocAttr, reduceCtorEq, reduceIte]
    refine fin_run ?_ (hK _ ?_) <;> clear hK <;> clear K
    · (first | exact trivial | omega | (simp only [In64] at *; omega) | (simp [In64] at *; omega) | (simp_all; done) | skip)
    refine qa (qk (qb ?_))
    simp only [Tryd.results94, enA, ev0, evA, evB, evP, fl, gp, tab, simprocAttr, reduceCtorEq, reduceIte]
    all_goals ((first | exact rfl | exact ⟨rfl, rfl⟩ | exact ⟨rfl, rfl, rfl⟩ | exact ⟨trivial, rfl⟩ | exact ⟨Nat.le_refl _, rfl⟩ | trivial | (simp; done)))
  · (try simp only [nhs] at hC1)
    exact absurd hC1 hx

theorem xcheck_ok {n e p : Nat} {m : List Int} (h : GT n m n e) (hn : n ≤ 12) (hp : pr p) (f : List Int) (hf : f.length ≤ 1000000000000000) : FnC Tryd.prog 94 [gp n m, .int .i64 p, .list (il f)] (fl (cf n m p f)) := by
  have hsq : n * n ≤ 144 := Nat.mul_le_mul hn hn
  have hml := h.2.1.len
  refine fnc_of tab_ok Tryd.func94 rfl (by kernel_rfl) (by rw [Tryd.ntmps94]; exact Nat.le_add_left 3 _) ?_; rw [Tryd.ntmps94]
  refine qm ?_
  refine hk_region fun K hK => runs_eval tab_ok ?_
  simp only [ev0, evA, evB, evP, fl, gp, tab, simprocAttr, reduceCtorEq, reduceIte]
  refine fin_run ?_ (hK _ ?_) <;> clear hK <;> clear K
  · (first | exact trivial | omega | (simp only [In64] at *; omega) | (simp [In64] at *; omega) | (simp_all; done) | skip)
  refine qa (qm (qm ?_))
  refine hk_region fun K hK => runs_eval tab_ok ?_
  simp only [ev0, evA, evB, evP, fl, gp, tab, simprocAttr, reduceCtorEq, reduceIte]
  refine fin_stop trivial (runs_call (xlook_c n m p (by omega)) rfl rfl rfl (by simp only [dstOk, Nat.reduceLT]) (by repeat (first | exact trivial | constructor)) (runs_eval tab_ok ?_))
  simp only [ev0, evA, evB, evP, fl, gp, tab, simprocAttr, reduceCtorEq, reduceIte, xf_of h hn hp]
  refine fin_run ?_ (hK _ ?_) <;> clear hK <;> clear K
  · (first | exact trivial | omega | (simp only [In64] at *; omega) | (simp [In64] at *; omega) | (simp_all; done) | skip)
  refine qa (qm ?_)
  refine hk_region fun K hK => runs_eval tab_ok ?_
  simp only [ev0, evA, evB, evP, fl, gp, tab, simprocAttr, reduceCtorEq, reduceIte]
  refine fin_run ?_ (hK _ ?_) <;> clear hK <;> clear K
  · (first | exact trivial | omega | (simp only [In64] at *; omega) | (simp [In64] at *; omega) | (simp_all; done) | skip)
  refine qa ?_
  refine hk_cond rfl (fun hC1 => ?_) (fun hC1 => ?_)
  · cases hC1
  · (try simp only [nhs] at hC1)
    refine qh (qa (qm ?_))
    refine hk_region fun K hK => runs_eval tab_ok ?_
    simp only [ev0, evA, evB, evP, fl, gp, tab, simprocAttr, reduceCtorEq, reduceIte]
    refine fin_stop trivial (runs_call (xlist_c h hn hp f hf) rfl rfl rfl (by simp only [dstOk, Nat.reduceLT]) (by repeat (first | exact trivial | constructor)) (runs_eval tab_ok ?_))
    simp only [ev0, evA, evB, evP, fl, gp, tab, simprocAttr, reduceCtorEq, reduceIte]
    refine fin_run ?_ (hK _ ?_) <;> clear hK <;> clear K
    · (first | exact trivial | omega | (simp only [In64] at *; omega) | (simp [In64] at *; omega) | (simp_all; done) | skip)
    refine qa (qk ?_)
    simp only [Tryd.results94, enA, ev0, evA, evB, evP, fl, gp, tab, simprocAttr, reduceCtorEq, reduceIte]
    all_goals ((first | exact rfl | exact ⟨rfl, rfl⟩ | exact ⟨rfl, rfl, rfl⟩ | exact ⟨trivial, rfl⟩ | exact ⟨Nat.le_refl _, rfl⟩ | trivial | (simp; done)))

/-! ### Bounds -/

def dB (n : Nat) (m : List Int) (c : Nat → Int) (t : Nat) : Int := c (t / n) + c (t % n) - c (op m n (t / n) (t % n))
def dl (n : Nat) (m : List Int) (p : Nat) (c : List Int) : List Int := updR (fun t => dB n m (fun a => c.getD a 0) t % (p : Int)) 0 (n * n) (List.replicate (n * n) 0)

theorem dl_len (n : Nat) (m : List Int) (p : Nat) (c : List Int) : (dl n m p c).length = n * n := by rw [dl, updR_len, List.length_replicate]
theorem dl_get {n : Nat} {m : List Int} {p : Nat} {c : List Int} {t : Nat} (ht : t < n * n) : (dl n m p c).getD t 0 = dB n m (fun a => c.getD a 0) t % (p : Int) := by
  rw [dl, updR_get (by rw [List.length_replicate]; exact ht), if_pos ⟨Nat.zero_le _, ht⟩]
theorem dl_rng {n : Nat} {m : List Int} {p : Nat} (hp : 0 < p) (c : List Int) : rng p (dl n m p c) := fun t ht => by
  rw [dl_len] at ht
  rw [dl_get ht]; exact emod_rng hp _

theorem dm_at {n a b : Nat} (hb : b < n) : (a * n + b) / n = a ∧ (a * n + b) % n = b := by
  constructor
  · rw [Nat.mul_comm, Nat.mul_add_div (by omega), Nat.div_eq_of_lt hb]; omega
  · rw [Nat.mul_comm, Nat.mul_add_mod, Nat.mod_eq_of_lt hb]

theorem bounds_c {n e p : Nat} {m : List Int} (h : GT n m n e) (hn : n ≤ 12) (hp : pr p) (c : List Int) (hc : c.length = n) (hr : ∀ t, t < n → -1000 ≤ c.getD t 0 ∧ c.getD t 0 ≤ 1000) :
    FnC Tryd.prog 151 [gp n m, .int .i64 p, .list (il c)] (.list (il (dl n m p c))) := by
  have T := h.2.1
  have hp2 := hp.le
  have hsq : n * n ≤ 144 := Nat.mul_le_mul hn hn
  have c0 : (n : Int) * (n : Int) = ((n * n : Nat) : Int) := (Int.natCast_mul n n).symm
  refine fnc_of tab_ok Tryd.func151 rfl (by kernel_rfl) (by rw [Tryd.ntmps151]; exact Nat.le_add_left 3 _) ?_; rw [Tryd.ntmps151]
  refine qm ?_
  refine hk_region fun K hK => runs_eval tab_ok ?_
  simp only [ev0, evA, evB, evP, fl, gp, tab, simprocAttr, reduceCtorEq, reduceIte]
  refine fin_run ?_ (hK _ ?_) <;> clear hK <;> clear K
  · (first | exact trivial | omega | (simp only [In64] at *; omega) | (simp [In64] at *; omega) | (simp_all; done) | skip)
  refine qa (qm ?_)
  refine hk_region fun K hK => runs_eval tab_ok ?_
  simp only [ev0, evA, evB, evP, fl, gp, tab, simprocAttr, reduceCtorEq, reduceIte, c0, ol_replicate]
  refine fin_run ?_ (hK _ ?_) <;> clear hK <;> clear K
  · simp only [In64]; omega
  refine qa (qm (qm ?_))
  refine hk_region fun K hK => runs_eval tab_ok ?_
  simp only [ev0, evA, evB, evP, fl, gp, tab, simprocAttr, reduceCtorEq, reduceIte]
  refine fin_run ?_ (hK _ ?_) <;> clear hK <;> clear K
  · (first | exact trivial | omega | (simp only [In64] at *; omega) | (simp [In64] at *; omega) | (simp_all; done) | skip)
  refine qa (ql ?_)
  refine hk_loop (ι := Nat) (fun a => ⟨60, [(1, .p (.int .i64 p)), (2, .p (.list (il c))), (3, .ptr 0 0), (7, .sl 1 0 (n * n)), (17, .p (.int .i64 n)), (18, .p (.int .i64 a))], [.own [.p (.int .i64 n), .p (.list (il m))], .own (ol (updR (fun t => dB n m (fun a => c.getD a 0) t % (p : Int)) 0 (a * n) (List.replicate (n * n) 0)))]⟩) (fun a => a ≤ n) (fun a => n - a) 0 (Nat.zero_le _) [0, 1] (by rw [Nat.zero_mul, updR_start]; simp only [leq, leA, ev0, evA, evB, evP, fl, gp, tab, simprocAttr, reduceCtorEq, reduceIte]) fun a ha => ?_
  refine qm ?_
  refine hk_region fun K hK => runs_eval tab_ok ?_
  simp only [ev0, evA, evB, evP, fl, gp, tab, simprocAttr, reduceCtorEq, reduceIte]
  refine fin_run trivial (hK _ ?_) <;> clear hK <;> clear K
  refine qa (qm ?_)
  refine hk_cond rfl (fun hC1 => ?_) (fun hC1 => ?_)
  · (try simp only [nhs] at hC1)
    have hal : a < n := by omega
    refine qh (qa (qm (ql (qm ?_))))
    refine hk_region fun K hK => runs_eval tab_ok ?_
    simp only [ev0, evA, evB, evP, fl, gp, tab, simprocAttr, reduceCtorEq, reduceIte]
    refine fin_run trivial (hK _ ?_) <;> clear hK <;> clear K
    refine qa (qm ?_)
    refine hk_region fun K hK => runs_eval tab_ok ?_
    simp only [ev0, evA, evB, evP, fl, gp, tab, simprocAttr, reduceCtorEq, reduceIte]
    refine fin_run ?_ (hK _ ?_) <;> clear hK <;> clear K
    · (first | exact trivial | omega | (simp only [In64] at *; omega) | (simp [In64] at *; omega) | (simp_all; done) | skip)
    refine qa (ql ?_)
    refine hk_loop (ι := Nat) (fun b => ⟨60, [(1, .p (.int .i64 p)), (2, .p (.list (il c))), (3, .ptr 0 0), (7, .sl 1 0 (n * n)), (8, .p (.int .i64 a)), (17, .p (.int .i64 n)), (18, .p (.int .i64 a)), (22, .p (.int .i64 n)), (23, .p (.int .i64 b))], [.own [.p (.int .i64 n), .p (.list (il m))], .own (ol (updR (fun t => dB n m (fun a => c.getD a 0) t % (p : Int)) 0 (a * n + b) (List.replicate (n * n) 0)))]⟩) (fun b => b ≤ n) (fun b => n - b) 0 (Nat.zero_le _) [0, 1] (by rw [Nat.add_zero]; simp only [leq, leA, ev0, evA, evB, evP, fl, gp, tab, simprocAttr, reduceCtorEq, reduceIte]) fun b hb => ?_
    refine qm ?_
    refine hk_region fun K hK => runs_eval tab_ok ?_
    simp only [ev0, evA, evB, evP, fl, gp, tab, simprocAttr, reduceCtorEq, reduceIte]
    refine fin_run trivial (hK _ ?_) <;> clear hK <;> clear K
    refine qa (qm ?_)
    refine hk_cond rfl (fun hC2 => ?_) (fun hC2 => ?_)
    · (try simp only [nhs] at hC2)
      have hbl : b < n := by omega
      have hab := T.lt hal hbl
      have hat := at_lt hal hbl
      have r1 := hr a hal
      have r2 := hr b hbl
      have r3 := hr _ hab
      obtain ⟨d1, d2⟩ := dm_at (a := a) hbl
      have hl : (updR (fun t => dB n m (fun a => c.getD a 0) t % (p : Int)) 0 (a * n + b) (List.replicate (n * n) 0)).length = n * n := by rw [updR_len, List.length_replicate]
      have hs : (updR (fun t => dB n m (fun a => c.getD a 0) t % (p : Int)) 0 (a * n + b) (List.replicate (n * n) 0)).set (a * n + b) ((c.getD a 0 + c.getD b 0 - c.getD (op m n a b) 0) % (p : Int)) = updR (fun t => dB n m (fun a => c.getD a 0) t % (p : Int)) 0 (a * n + b + 1) (List.replicate (n * n) 0) := by
        rw [← updR_set (Nat.zero_le _) (by rw [List.length_replicate]; exact hat)]
        simp only [dB, d1, d2]
      have c1 : (a : Int) * (n : Int) = ((a * n : Nat) : Int) := (Int.natCast_mul a n).symm
      have ht1 := Int.lt_tmod_of_pos (c.getD a 0 + c.getD b 0 - c.getD (op m n a b) 0) (show (0 : Int) < p by omega)
      have ht2 := Int.tmod_lt_of_pos (c.getD a 0 + c.getD b 0 - c.getD (op m n a b) 0) (show (0 : Int) < p by omega)
      refine qh (qa (qm (ql (qm ?_))))
      refine hk_region fun K hK => runs_eval tab_ok ?_
      simp only [ev0, evA, evB, evP, fl, gp, tab, simprocAttr, reduceCtorEq, reduceIte]
      refine fin_run trivial (hK _ ?_) <;> clear hK <;> clear K
      refine qa ?_
      refine hk_draw mixed (by kernel_rfl) fun K hK => runs_eval tab_ok ?_
      simp only [ev0, evA, evB, evP, fl, gp, tab, simprocAttr, reduceCtorEq, reduceIte, at_nat, il_get (show a < c.length by omega), il_get (show b < c.length by omega), il_get (show op m n a b < c.length by omega), tmod2 (show 0 < p by omega), ol_set, hs, hl]
      refine fin_stop ?_ (runs_call (of_c T hal hbl) rfl rfl rfl (by simp only [dstOk, Nat.reduceLT]) (by repeat (first | exact trivial | constructor)) (runs_eval tab_ok ?_))
      · simp only [c1, In64]; omega
      simp only [ev0, evA, evB, evP, fl, gp, tab, simprocAttr, reduceCtorEq, reduceIte, at_nat, il_get (show a < c.length by omega), il_get (show b < c.length by omega), il_get (show op m n a b < c.length by omega), tmod2 (show 0 < p by omega), ol_set, hs, hl]
      refine fin_run ?_ (hK _ ?_) <;> clear hK <;> clear K
      · rw [c1]; simp only [In64]; omega
      refine qd (qa ?_)
      refine hk_region fun K hK => runs_eval tab_ok ?_
      simp only [ev0, evA, evB, evP, fl, gp, tab, simprocAttr, reduceCtorEq, reduceIte]
      refine fin_run ?_ (hK _ ?_) <;> clear hK <;> clear K
      · (first | exact trivial | omega | (simp only [In64] at *; omega) | (simp [In64] at *; omega) | (simp_all; done) | skip)
      refine qa ?_
      refine ⟨b + 1, [0, 1], by omega, by omega, ?_⟩
      rw [← Nat.add_assoc]
      simp only [leq, leA, ev0, evA, evB, evP, fl, gp, tab, simprocAttr, reduceCtorEq, reduceIte] <;> omega
    · (try simp only [nhs] at hC2)
      refine qj (qc (qc (qf (qd (qa ?_)))))
      refine hk_region fun K hK => runs_eval tab_ok ?_
      simp only [ev0, evA, evB, evP, fl, gp, tab, simprocAttr, reduceCtorEq, reduceIte]
      refine fin_run ?_ (hK _ ?_) <;> clear hK <;> clear K
      · (first | exact trivial | omega | (simp only [In64] at *; omega) | (simp [In64] at *; omega) | (simp_all; done) | skip)
      refine qa ?_
      have hbn : b = n := by omega
      refine ⟨a + 1, [0, 1], by omega, by omega, ?_⟩
      rw [show (a + 1) * n = a * n + b by rw [Nat.add_mul, Nat.one_mul, hbn]]
      simp only [leq, leA, ev0, evA, evB, evP, fl, gp, tab, simprocAttr, reduceCtorEq, reduceIte] <;> omega
  · (try simp only [nhs] at hC1)
    refine qj (qc (qc (qf (qa (qm ?_)))))
    refine hk_region fun K hK => runs_eval tab_ok ?_
    simp only [ev0, evA, evB, evP, fl, gp, tab, simprocAttr, reduceCtorEq, reduceIte]
    refine fin_run trivial (hK _ ?_) <;> clear hK <;> clear K
    refine qa (qk ?_)
    simp only [Tryd.results151, enA, ev0, evA, evB, evP, fl, gp, tab, simprocAttr, reduceCtorEq, reduceIte]
    have han : a = n := by omega
    rw [han]
    have hl : (updR (fun t => dB n m (fun a => c.getD a 0) t % (p : Int)) 0 (n * n) (List.replicate (n * n) 0)).length = n * n := by rw [updR_len, List.length_replicate]
    simp only [dl]
    rw [List.take_of_length_le (by omega)]
    simp [updR_len]

end Go.Proofs.YtjbfkdaodfdpcaaDoor

/-
  Walks: extensions: what all bounds span; bounds; what is the same; what is made. Conditions: none.
-/
set_option linter.all false
namespace Go.Proofs.YtjbfkdaodfdpcaaDoor
open Go.Pv

/-- A list that is 1 at one place. -/
def un1 (n a : Nat) : List Int := (List.replicate n 0).set a 1

theorem un1_len (n a : Nat) : (un1 n a).length = n := by simp [un1]
theorem un1_get {n a t : Nat} (ha : a < n) (ht : t < n) : (un1 n a).getD t 0 = if t = a then 1 else 0 := by
  unfold un1
  rw [List.getD_eq_getElem?_getD, List.getElem?_set]
  by_cases h : a = t
  · subst h; simp [ha]
  · rw [if_neg h, if_neg (fun e => h e.symm)]; simp [ht]

/-- The rows of the first things' bounds. -/
def spK (n : Nat) (m : List Int) (p : Nat) : Nat → List (Nat × List Int)
  | 0 => []
  | k + 1 => (addL p (spK n m p k) (dl n m p (un1 n k))).1

theorem spK_ech {n p : Nat} (hp : pr p) (m : List Int) : ∀ k, Ech p (n * n) (spK n m p k)
  | 0 => Ech.nil _ _
  | k + 1 => (addL_spec hp (spK_ech hp m k) (dl_len n m p (un1 n k))).1

theorem dB_lin {n : Nat} {m : List Int} (a b : Int) (c d : Nat → Int) (t : Nat) : dB n m (fun k => a * c k + b * d k) t = a * dB n m c t + b * dB n m d t := by
  simp only [dB, Int.mul_add, Int.mul_sub]; omega

theorem dB_congr {n : Nat} {m : List Int} (T : Tab n m) {c d : Nat → Int} (h : ∀ a, a < n → c a = d a) {t : Nat} (ht : t < n * n) : dB n m c t = dB n m d t := by
  have hn := T.pos
  have h1 : t / n < n := (Nat.div_lt_iff_lt_mul (by omega)).2 ht
  have h2 : t % n < n := Nat.mod_lt _ (by omega)
  simp only [dB, h _ h1, h _ h2, h _ (T.lt h1 h2)]

theorem spK_sp {n p : Nat} (hp : pr p) {m : List Int} (T : Tab n m) : ∀ k, k ≤ n → ∀ x : Nat → Int, Sp p (n * n) (spK n m p k) x ↔ ∃ c : Nat → Int, (∀ a, k ≤ a → c a = 0) ∧ ∀ t, t < n * n → (p : Int) ∣ x t - dB n m c t
  | 0, _, x => by
    constructor
    · rintro ⟨c, hc⟩
      refine ⟨fun _ => 0, fun _ _ => rfl, fun t ht => ?_⟩
      have := hc t ht
      simpa [spK, lsum, dB] using this
    · rintro ⟨c, hc0, hc⟩
      refine Sp.zero fun t ht => ?_
      have := hc t ht
      simpa [dB, hc0] using this
  | k + 1, hk, x => by
    have hdl : ∀ t, t < n * n → (p : Int) ∣ (dl n m p (un1 n k)).getD t 0 - dB n m (dl1 k) t := fun t ht => by
      rw [dl_get ht, dB_congr T (c := fun a => (un1 n k).getD a 0) (d := dl1 k) (fun a ha => by rw [un1_get (by omega) ha]; rfl) ht]
      exact dvd_emod_sub _ _
    have h1 := (addL_spec hp (spK_ech hp m k) (dl_len n m p (un1 n k))).2.2.1 x
    show Sp p (n * n) (addL p (spK n m p k) (dl n m p (un1 n k))).1 x ↔ _
    rw [h1]
    constructor
    · rintro ⟨t, ht⟩
      obtain ⟨c, c1, c2⟩ := (spK_sp hp T k (by omega) _).1 ht
      refine ⟨fun a => 1 * c a + t * dl1 k a, fun a ha => by simp [c1 a (by omega), dl1, show a ≠ k by omega], fun j hj => ?_⟩
      rw [dB_lin]
      have e : x j - (1 * dB n m c j + t * dB n m (dl1 k) j) = (x j - t * (dl n m p (un1 n k)).getD j 0 - dB n m c j) + t * ((dl n m p (un1 n k)).getD j 0 - dB n m (dl1 k) j) := by
        rw [Int.mul_sub]; omega
      rw [e]
      exact Int.dvd_add (c2 j hj) (Int.dvd_mul_of_dvd_right (hdl j hj))
    · rintro ⟨c, c1, c2⟩
      refine ⟨c k, (spK_sp hp T k (by omega) _).2 ⟨fun a => 1 * c a + (-(c k)) * dl1 k a, fun a ha => ?_, fun j hj => ?_⟩⟩
      · by_cases h : a = k
        · subst h; simp [dl1]; omega
        · simp [c1 a (by omega), dl1, h]
      · rw [dB_lin]
        have e : x j - c k * (dl n m p (un1 n k)).getD j 0 - (1 * dB n m c j + -(c k) * dB n m (dl1 k) j) = (x j - dB n m c j) + (-(c k)) * ((dl n m p (un1 n k)).getD j 0 - dB n m (dl1 k) j) := by
          rw [Int.mul_sub, Int.neg_mul, Int.neg_mul]; omega
        rw [e]
        exact Int.dvd_add (c2 j hj) (Int.dvd_mul_of_dvd_right (hdl j hj))

theorem xspan_c {n e p : Nat} {m : List Int} (h : GT n m n e) (hn : n ≤ 12) (hp : pr p) :
    FnM Tryd.prog 104 [.p (gp n m), .p (.int .i64 p)] [] (.ptr 0 0) [.own [.p (.int .i64 p), .mptr 1], .mp .i64 (dOf (spK n m p n)) (vOf (spK n m p n))] := by
  have T := h.2.1
  have hpos := T.pos
  have hp2 := hp.le
  have hsq : n * n ≤ 144 := Nat.mul_le_mul hn hn
  have hsq1 : 0 < n * n := Nat.mul_pos hpos hpos
  refine fnm_of tab_ok Tryd.func104 rfl (by kernel_rfl) (by rw [Tryd.ntmps104]; exact Nat.le_add_left 2 _) ?_; rw [Tryd.ntmps104]; simp only [ancs, entA, List.length_cons, List.length_nil, List.cons_append, List.nil_append, Nat.reduceAdd, Nat.zero_add]
  refine qm ?_
  refine hk_region fun K hK => runs_eval tab_ok ?_
  simp only [ev0, evA, evB, evP, fl, gp, tab, simprocAttr, reduceCtorEq, reduceIte]
  refine fin_run ?_ (hK _ ?_) <;> clear hK <;> clear K
  · (first | exact trivial | omega | (simp only [In64] at *; omega) | (simp [In64] at *; omega) | (simp_all; done) | skip)
  refine qa (qm ?_)
  refine hk_region fun K hK => runs_eval tab_ok ?_
  simp only [ev0, evA, evB, evP, fl, gp, tab, simprocAttr, reduceCtorEq, reduceIte]
  refine fin_stop ?_ (runs_callM [] (newRows_c p) rfl rfl ?_ (by simp only [leA, ev0, evA, evB, evP, fl, gp, tab, simprocAttr, reduceCtorEq, reduceIte]; first | trivial | (simp only [ll_takeL]; first | trivial | (repeat constructor; done)) | (repeat constructor)) (by decide) (by first | rfl | (simp only [List.length_cons, List.length_nil, List.length_append]; decide)) (by first | rfl | (simp only [scM, opl_sc, List.all_cons, List.all_nil, List.length_cons, List.length_nil]; first | rfl | decide) | (simp [scM, scA, sc1, mpKeep, notAnc]; done)) (by simp only [dstOk, Nat.reduceLT]) (runs_eval tab_ok ?_))
  · (first | exact trivial | omega | (simp only [In64] at *; omega) | (simp [In64] at *; omega) | (simp_all; done) | skip)
  · (simp only [argsM, argM1, peekG, peekS, scA, sc1, ren, ren1, List.map_cons, List.map_nil, List.append_nil, List.cons_append, List.nil_append, enA, ev0, evA, evB, evP, fl, gp, tab, simprocAttr, reduceCtorEq, reduceIte]; try trivial)
  simp only [putM, hset, List.range', Blk.ren, ren, ren1, List.map_cons, List.map_nil, List.cons_append, List.nil_append, List.append_nil, List.length_cons, List.length_nil, ev0, evA, evB, evP, fl, gp, tab, simprocAttr, reduceCtorEq, reduceIte]
  refine fin_run trivial (hK _ ?_) <;> clear hK <;> clear K
  refine qa (qm (qm ?_))
  refine hk_region fun K hK => runs_eval tab_ok ?_
  simp only [ev0, evA, evB, evP, fl, gp, tab, simprocAttr, reduceCtorEq, reduceIte]
  refine fin_run ?_ (hK _ ?_) <;> clear hK <;> clear K
  · (first | exact trivial | omega | (simp only [In64] at *; omega) | (simp [In64] at *; omega) | (simp_all; done) | skip)
  refine qa (ql ?_)
  refine hk_loop (ι := Nat) (fun a => ⟨29, [(1, .p (.int .i64 p)), (2, .ptr 0 0), (5, .ptr 1 0), (11, .p (.int .i64 n)), (12, .p (.int .i64 a))], [.own [.p (.int .i64 n), .p (.list (il m))], .own [.p (.int .i64 p), .mptr 2], .mp .i64 (dOf (spK n m p a)) (vOf (spK n m p a))]⟩) (fun a => a ≤ n) (fun a => n - a) 0 (Nat.zero_le _) [0, 1, 2] (by simp only [leq, leA, ev0, evA, evB, evP, fl, gp, tab, simprocAttr, reduceCtorEq, reduceIte]; rfl) fun a ha => ?_
  refine qm ?_
  refine hk_region fun K hK => runs_eval tab_ok ?_
  simp only [ev0, evA, evB, evP, fl, gp, tab, simprocAttr, reduceCtorEq, reduceIte]
  refine fin_run trivial (hK _ ?_) <;> clear hK <;> clear K
  refine qa (qm ?_)
  refine hk_cond rfl (fun hC1 => ?_) (fun hC1 => ?_)
  · (try simp only [nhs] at hC1)
    have hal : a < n := by omega
    refine qh (qa (qm (ql (qm ?_))))
    refine hk_region fun K hK => runs_eval tab_ok ?_
    simp only [ev0, evA, evB, evP, fl, gp, tab, simprocAttr, reduceCtorEq, reduceIte]
    refine fin_run trivial (hK _ ?_) <;> clear hK <;> clear K
    refine qa (qm ?_)
    refine hk_region fun K hK => runs_eval tab_ok ?_
    simp only [ev0, evA, evB, evP, fl, gp, tab, simprocAttr, reduceCtorEq, reduceIte, ol_replicate]
    refine fin_run ?_ (hK _ ?_) <;> clear hK <;> clear K
    · (first | exact trivial | omega | (simp only [In64] at *; omega) | (simp [In64] at *; omega) | (simp_all; done) | skip)
    refine qa (qm ?_)
    refine hk_region fun K hK => runs_eval tab_ok ?_
    simp only [ev0, evA, evB, evP, fl, gp, tab, simprocAttr, reduceCtorEq, reduceIte, ol_set]
    refine fin_run ?_ (hK _ ?_) <;> clear hK <;> clear K
    · (first | exact trivial | omega | (simp only [In64] at *; omega) | (simp [In64] at *; omega) | (simp_all; done) | skip)
    refine qa ?_
    refine hk_seal 7 3 (w := un1 n a) (by rw [un1_len]; rfl) rfl ?_
    refine hk_region fun K hK => runs_eval tab_ok ?_
    simp only [ev0, evA, evB, evP, fl, gp, tab, simprocAttr, reduceCtorEq, reduceIte]
    refine fin_stop trivial (runs_call (bounds_c h hn hp (un1 n a) (un1_len n a) (fun t ht => by rw [un1_get hal ht]; split <;> omega)) rfl rfl rfl (by simp only [dstOk, Nat.reduceLT]) (by repeat (first | exact trivial | constructor)) (runs_eval tab_ok ?_))
    simp only [ev0, evA, evB, evP, fl, gp, tab, simprocAttr, reduceCtorEq, reduceIte]
    refine fin_stop ?_ (runs_callM [1, 2] (add_c hp hsq1 (by omega) (spK n m p a) (spK_ech hp m a) (dl n m p (un1 n a)) (dl_len n m p _) (fun t ht => by have := dl_rng (show 0 < p by omega) (n := n) (m := m) (un1 n a) t (by rw [dl_len]; exact ht); omega)) rfl rfl ?_ (by simp only [leA, ev0, evA, evB, evP, fl, gp, tab, simprocAttr, reduceCtorEq, reduceIte]; first | trivial | (simp only [ll_takeL]; first | trivial | (repeat constructor; done)) | (repeat constructor)) (by decide) (by first | rfl | (simp only [List.length_cons, List.length_nil, List.length_append]; decide)) (by first | rfl | (simp only [scM, opl_sc, List.all_cons, List.all_nil, List.length_cons, List.length_nil]; first | rfl | decide) | (simp [scM, scA, sc1, mpKeep, notAnc]; done)) (by simp only [dstOk, Nat.reduceLT]) (runs_eval tab_ok ?_))
    · (first | exact trivial | omega | (simp only [In64] at *; omega) | (simp [In64] at *; omega) | (simp_all; done) | skip)
    · (simp only [argsM, argM1, peekG, peekS, scA, sc1, ren, ren1, List.map_cons, List.map_nil, List.append_nil, List.cons_append, List.nil_append, enA, ev0, evA, evB, evP, fl, gp, tab, simprocAttr, reduceCtorEq, reduceIte]; try trivial)
    simp only [putM, hset, List.range', Blk.ren, ren, ren1, List.map_cons, List.map_nil, List.cons_append, List.nil_append, List.append_nil, List.length_cons, List.length_nil, ev0, evA, evB, evP, fl, gp, tab, simprocAttr, reduceCtorEq, reduceIte]
    refine fin_run ?_ (hK _ ?_) <;> clear hK <;> clear K
    · (first | exact trivial | omega | (simp only [In64] at *; omega) | (simp [In64] at *; omega) | (simp_all; done) | skip)
    refine qd (qa ?_)
    refine hk_region fun K hK => runs_eval tab_ok ?_
    simp only [ev0, evA, evB, evP, fl, gp, tab, simprocAttr, reduceCtorEq, reduceIte]
    refine fin_run ?_ (hK _ ?_) <;> clear hK <;> clear K
    · (first | exact trivial | omega | (simp only [In64] at *; omega) | (simp [In64] at *; omega) | (simp_all; done) | skip)
    refine qa ?_
    refine ⟨a + 1, [0, 1, 2], by omega, by omega, ?_⟩
    simp only [leq, leA, ev0, evA, evB, evP, fl, gp, tab, simprocAttr, reduceCtorEq, reduceIte] <;> first | trivial | omega
  · (try simp only [nhs] at hC1)
    refine qj (qc (qc (qf (qa (qm ?_)))))
    refine hk_region fun K hK => runs_eval tab_ok ?_
    simp only [ev0, evA, evB, evP, fl, gp, tab, simprocAttr, reduceCtorEq, reduceIte]
    refine fin_run trivial (hK _ ?_) <;> clear hK <;> clear K
    refine qa (qk ?_)
    simp only [Tryd.results104, PostG, endG, rvsA, rvA, mkTup, ev0, evA, evB, evP, fl, gp, tab, simprocAttr, reduceCtorEq, reduceIte]
    have han : a = n := by omega
    rw [han]
    exact ⟨[1, 2], rfl, rfl, rfl, by simp, ⟨⟨rfl, rfl⟩, rfl, trivial⟩, trivial⟩

end Go.Proofs.YtjbfkdaodfdpcaaDoor

/-
  Walks: extensions: Bound, Same, Made. Conditions: none.
-/
set_option linter.all false
namespace Go.Proofs.YtjbfkdaodfdpcaaDoor
open Go.Pv

/-- The fault of a list of so many numbers. -/
def bf (n p : Nat) (c : List Int) : Int × Int :=
  if ¬ c.length = n then (8, 0)
  else match fst' (fun i => decide (c.getD i 0 < 0 ∨ c.getD i 0 ≥ p)) c.length with | some i => (5, (i : Int)) | none => (0, 0)

def bdL (n : Nat) (m : List Int) (p : Nat) (c : List Int) : List Int := if (bf n p c).1 = 0 then dl n m p c else []

/-! ### What is the same -/

def pk2 (f h : List Int) (k : Nat) : List Int := if k = 0 then f else h

def saF (n : Nat) (m : List Int) (p : Nat) (f h : List Int) : Int × Int := if ¬ (cf n m p f).1 = 0 then cf n m p f else cf n m p h
def sbl (f h : List Int) : List Int := updR (fun t => f.getD t 0 - h.getD t 0) 0 f.length (List.replicate f.length 0)
def saB (n : Nat) (m : List Int) (p : Nat) (f h : List Int) : Bool := bif decide ((saF n m p f h).1 = 0) then !(addL p (spK n m p n) (sbl f h)).2 else false

theorem sbl_len (f h : List Int) : (sbl f h).length = f.length := by rw [sbl, updR_len, List.length_replicate]
theorem sbl_get {f h : List Int} {t : Nat} (ht : t < f.length) : (sbl f h).getD t 0 = f.getD t 0 - h.getD t 0 := by
  rw [sbl, updR_get (by rw [List.length_replicate]; exact ht), if_pos ⟨Nat.zero_le _, ht⟩]

theorem same_ok {n e p : Nat} {m : List Int} (hT : GT n m n e) (hn : n ≤ 12) (hp : pr p) (f h : List Int) (hf : f.length ≤ 1000000000000000) (hh : h.length ≤ 1000000000000000) :
    FnC Tryd.prog 38 [gp n m, .int .i64 p, .list (il f), .list (il h)] (.tup [.bool (saB n m p f h), fl (saF n m p f h)]) := by
  have hsq : n * n ≤ 144 := Nat.mul_le_mul hn hn
  have hml := hT.2.1.len
  have hp2 := hp.le
  have hpos := hT.2.1.pos
  have hsq1 : 0 < n * n := Nat.mul_pos hpos hpos
  refine fnc_of tab_ok Tryd.func38 rfl (by kernel_rfl) (by rw [Tryd.ntmps38]; exact Nat.le_add_left 4 _) ?_; rw [Tryd.ntmps38]
  refine qm ?_
  refine hk_region fun K hK => runs_eval tab_ok ?_
  simp only [ev0, evA, evB, evP, fl, gp, tab, simprocAttr, reduceCtorEq, reduceIte]
  refine fin_run ?_ (hK _ ?_) <;> clear hK <;> clear K
  · (first | exact trivial | omega | (simp only [In64] at *; omega) | (simp [In64] at *; omega) | (simp_all; done) | skip)
  refine qa (qm (qm ?_))
  refine hk_region fun K hK => runs_eval tab_ok ?_
  simp only [ev0, evA, evB, evP, fl, gp, tab, simprocAttr, reduceCtorEq, reduceIte]
  refine fin_stop trivial (runs_call (xlook_c n m p (by omega)) rfl rfl rfl (by simp only [dstOk, Nat.reduceLT]) (by repeat (first | exact trivial | constructor)) (runs_eval tab_ok ?_))
  simp only [ev0, evA, evB, evP, fl, gp, tab, simprocAttr, reduceCtorEq, reduceIte, xf_of hT hn hp]
  refine fin_run ?_ (hK _ ?_) <;> clear hK <;> clear K
  · (first | exact trivial | omega | (simp only [In64] at *; omega) | (simp [In64] at *; omega) | (simp_all; done) | skip)
  refine qa (qm ?_)
  refine hk_region fun K hK => runs_eval tab_ok ?_
  simp only [ev0, evA, evB, evP, fl, gp, tab, simprocAttr, reduceCtorEq, reduceIte]
  refine fin_run ?_ (hK _ ?_) <;> clear hK <;> clear K
  · (first | exact trivial | omega | (simp only [In64] at *; omega) | (simp [In64] at *; omega) | (simp_all; done) | skip)
  refine qa ?_
  refine hk_cond rfl (fun hC1 => ?_) (fun hC1 => ?_)
  · cases hC1
  · (try simp only [nhs] at hC1)
    refine qh (qa (qm (qm ?_)))
    refine hk_region fun K hK => runs_eval tab_ok ?_
    simp only [ev0, evA, evB, evP, fl, gp, tab, simprocAttr, reduceCtorEq, reduceIte]
    refine fin_run ?_ (hK _ ?_) <;> clear hK <;> clear K
    · (first | exact trivial | omega | (simp only [In64] at *; omega) | (simp [In64] at *; omega) | (simp_all; done) | skip)
    refine qa (ql ?_)
    refine hk_loop (ι := Nat) (fun k => ⟨68, [(1, .p (.int .i64 p)), (2, .p (.list (il f))), (3, .p (.list (il h))), (4, .ptr 0 0), (9, .ptr 1 0), (25, .p (.nn [.list (il f), .list (il h)])), (26, .p (.int .i64 2)), (27, .p (.int .i64 k))], [.own [.p (.int .i64 n), .p (.list (il m))], .own [.p (.int .i64 0), .p (.int .i64 0)]]⟩) (fun k => k ≤ 2 ∧ ∀ j, j < k → (cf n m p (pk2 f h j)).1 = 0) (fun k => 2 - k) 0 ⟨Nat.zero_le _, fun j hj => by omega⟩ [0, 1] (by simp only [leq, leA, ev0, evA, evB, evP, fl, gp, tab, simprocAttr, reduceCtorEq, reduceIte] <;> trivial) fun k hk => ?_
    obtain ⟨hk1, hk2⟩ := hk
    refine qm ?_
    refine hk_region fun K hK => runs_eval tab_ok ?_
    simp only [ev0, evA, evB, evP, fl, gp, tab, simprocAttr, reduceCtorEq, reduceIte]
    refine fin_run trivial (hK _ ?_) <;> clear hK <;> clear K
    refine qa (qm ?_)
    refine hk_cond rfl (fun hC2 => ?_) (fun hC2 => ?_)
    · (try simp only [nhs] at hC2)
      have hkl : k < 2 := by omega
      have hpk : [PV.list (il f), PV.list (il h)].getD k default = .list (il (pk2 f h k)) := by
        match k, hkl with
        | 0, _ => rfl
        | 1, _ => rfl
      have hpl : (pk2 f h k).length ≤ 1000000000000000 := by unfold pk2; split <;> omega
      refine qh (qa (qm (ql (qm ?_))))
      refine hk_region fun K hK => runs_eval tab_ok ?_
      simp only [ev0, evA, evB, evP, fl, gp, tab, simprocAttr, reduceCtorEq, reduceIte, hpk]
      refine fin_run ?_ (hK _ ?_) <;> clear hK <;> clear K
      · (first | exact trivial | omega | (simp only [In64] at *; omega) | (simp [In64] at *; omega) | (simp_all; done) | skip)
      refine qa (qm ?_)
      refine hk_region fun K hK => runs_eval tab_ok ?_
      simp only [ev0, evA, evB, evP, fl, gp, tab, simprocAttr, reduceCtorEq, reduceIte]
      refine fin_stop trivial (runs_call (xlist_c hT hn hp (pk2 f h k) hpl) rfl rfl rfl (by simp only [dstOk, Nat.reduceLT]) (by repeat (first | exact trivial | constructor)) (runs_eval tab_ok ?_))
      simp only [ev0, evA, evB, evP, fl, gp, tab, simprocAttr, reduceCtorEq, reduceIte]
      refine fin_run ?_ (hK _ ?_) <;> clear hK <;> clear K
      · (first | exact trivial | omega | (simp only [In64] at *; omega) | (simp [In64] at *; omega) | (simp_all; done) | skip)
      refine qa (qm ?_)
      refine hk_region fun K hK => runs_eval tab_ok ?_
      simp only [ev0, evA, evB, evP, fl, gp, tab, simprocAttr, reduceCtorEq, reduceIte]
      refine fin_run ?_ (hK _ ?_) <;> clear hK <;> clear K
      · (first | exact trivial | omega | (simp only [In64] at *; omega) | (simp [In64] at *; omega) | (simp_all; done) | skip)
      refine qa ?_
      refine hk_cond rfl (fun hC3 => ?_) (fun hC3 => ?_)
      · (try simp only [nhs] at hC3)
        refine qm ?_
        refine hk_draw mixed (by kernel_rfl) fun K hK => runs_eval tab_ok ?_
        simp only [ev0, evA, evB, evP, fl, gp, tab, simprocAttr, reduceCtorEq, reduceIte]
        refine fin_run ?_ (hK _ ?_) <;> clear hK <;> clear K
        · (first | exact trivial | omega | (simp only [In64] at *; omega) | (simp [In64] at *; omega) | (simp_all; done) | skip)
        refine qa (qk (qe (qb (qb (qe (qb ?_))))))
        simp only [Tryd.results38, enA, ev0, evA, evB, evP, fl, gp, tab, simprocAttr, reduceCtorEq, reduceIte]
        have hF : saF n m p f h = cf n m p (pk2 f h k) := by
          unfold saF
          match k, hkl, hk2, hC3 with
          | 0, _, _, hC3 => exact if_pos (show ¬ (cf n m p f).1 = 0 from hC3)
          | 1, _, hk2, hC3 => exact if_neg (fun h0 => h0 (show (cf n m p f).1 = 0 from hk2 0 (by omega)))
        have hB : saB n m p f h = false := by unfold saB; rw [hF, decide_eq_false hC3]; rfl
        simp [hF, hB]
      · (try simp only [nhs] at hC3)
        refine qh (qd (qa ?_))
        refine hk_region fun K hK => runs_eval tab_ok ?_
        simp only [ev0, evA, evB, evP, fl, gp, tab, simprocAttr, reduceCtorEq, reduceIte]
        refine fin_run ?_ (hK _ ?_) <;> clear hK <;> clear K
        · (first | exact trivial | omega | (simp only [In64] at *; omega) | (simp [In64] at *; omega) | (simp_all; done) | skip)
        refine qa ?_
        refine ⟨k + 1, [0, 1], ⟨by omega, fun j hj => ?_⟩, by omega, ?_⟩
        · by_cases hj : j = k
          · subst hj; simpa using hC3
          · exact hk2 j (by omega)
        · simp only [leq, leA, ev0, evA, evB, evP, fl, gp, tab, simprocAttr, reduceCtorEq, reduceIte] <;> first | trivial | omega
    · (try simp only [nhs] at hC2)
      have hf0 : (cf n m p f).1 = 0 := hk2 0 (by omega)
      have hh0 : (cf n m p h).1 = 0 := hk2 1 (by omega)
      obtain ⟨f1, f2, _, _⟩ := cf_0 hf0
      obtain ⟨h1, h2, _, h4⟩ := cf_0 hh0
      refine qj (qc (qc (qf (qa (qm ?_)))))
      refine hk_region fun K hK => runs_eval tab_ok ?_
      simp only [ev0, evA, evB, evP, fl, gp, tab, simprocAttr, reduceCtorEq, reduceIte, ol_replicate]
      refine fin_run ?_ (hK _ ?_) <;> clear hK <;> clear K
      · (first | exact trivial | omega | (simp only [In64] at *; omega) | (simp [In64] at *; omega) | (simp_all; done) | skip)
      refine qa (qm (qm ?_))
      refine hk_region fun K hK => runs_eval tab_ok ?_
      simp only [ev0, evA, evB, evP, fl, gp, tab, simprocAttr, reduceCtorEq, reduceIte]
      refine fin_run trivial (hK _ ?_) <;> clear hK <;> clear K
      refine qa (ql ?_)
      refine hk_loop (ι := Nat) (fun i => ⟨68, [(1, .p (.int .i64 p)), (2, .p (.list (il f))), (3, .p (.list (il h))), (4, .ptr 0 0), (9, .ptr 1 0), (14, .sl 2 0 f.length), (44, .p (.int .i64 f.length)), (45, .p (.int .i64 i))], [.own [.p (.int .i64 n), .p (.list (il m))], .own [.p (.int .i64 0), .p (.int .i64 0)], .own (ol (updR (fun t => f.getD t 0 - h.getD t 0) 0 i (List.replicate f.length 0)))]⟩) (fun i => i ≤ f.length) (fun i => f.length - i) 0 (Nat.zero_le _) [0, 1, 2] (by rw [updR_start]; simp only [leq, leA, ev0, evA, evB, evP, fl, gp, tab, simprocAttr, reduceCtorEq, reduceIte]) fun i hi => ?_
      refine qm ?_
      refine hk_region fun K hK => runs_eval tab_ok ?_
      simp only [ev0, evA, evB, evP, fl, gp, tab, simprocAttr, reduceCtorEq, reduceIte]
      refine fin_run trivial (hK _ ?_) <;> clear hK <;> clear K
      refine qa (qm ?_)
      refine hk_cond rfl (fun hC4 => ?_) (fun hC4 => ?_)
      · (try simp only [nhs] at hC4)
        have hil : i < f.length := by omega
        have b1 := f2 i hil
        have b2 := h2 i (by omega)
        have hl : (updR (fun t => f.getD t 0 - h.getD t 0) 0 i (List.replicate f.length 0)).length = f.length := by rw [updR_len, List.length_replicate]
        have hs : (updR (fun t => f.getD t 0 - h.getD t 0) 0 i (List.replicate f.length 0)).set i (f.getD i 0 - h.getD i 0) = updR (fun t => f.getD t 0 - h.getD t 0) 0 (i + 1) (List.replicate f.length 0) := updR_set (f := fun t => f.getD t 0 - h.getD t 0) (Nat.zero_le _) (by rw [List.length_replicate]; exact hil)
        refine qh (qa (qm (ql (qm ?_))))
        refine hk_region fun K hK => runs_eval tab_ok ?_
        simp only [ev0, evA, evB, evP, fl, gp, tab, simprocAttr, reduceCtorEq, reduceIte]
        refine fin_run trivial (hK _ ?_) <;> clear hK <;> clear K
        refine qa ?_
        refine hk_draw mixed (by kernel_rfl) fun K hK => runs_eval tab_ok ?_
        simp only [ev0, evA, evB, evP, fl, gp, tab, simprocAttr, reduceCtorEq, reduceIte, il_get hil, il_get (show i < h.length by omega), ol_set, hs, hl]
        refine fin_run ?_ (hK _ ?_) <;> clear hK <;> clear K
        · (first | exact trivial | omega | (simp only [In64] at *; omega) | (simp [In64] at *; omega) | (simp_all; done) | skip)
        refine qd (qa ?_)
        refine hk_region fun K hK => runs_eval tab_ok ?_
        simp only [ev0, evA, evB, evP, fl, gp, tab, simprocAttr, reduceCtorEq, reduceIte]
        refine fin_run ?_ (hK _ ?_) <;> clear hK <;> clear K
        · (first | exact trivial | omega | (simp only [In64] at *; omega) | (simp [In64] at *; omega) | (simp_all; done) | skip)
        refine qa ?_
        refine ⟨i + 1, [0, 1, 2], by omega, by omega, ?_⟩
        simp only [leq, leA, ev0, evA, evB, evP, fl, gp, tab, simprocAttr, reduceCtorEq, reduceIte] <;> omega
      · (try simp only [nhs] at hC4)
        refine qj (qc (qc (qf (qa (qm ?_)))))
        have hie : i = f.length := by omega
        refine hk_seal 14 2 (w := sbl f h) (by rw [sbl_len]; rfl) (by rw [hie]; rfl) ?_
        refine hk_region fun K hK => runs_eval tab_ok ?_
        simp only [ev0, evA, evB, evP, fl, gp, tab, simprocAttr, reduceCtorEq, reduceIte]
        refine fin_stop ?_ (runs_callM [] (xspan_c hT hn hp) rfl rfl ?_ (by simp only [leA, ev0, evA, evB, evP, fl, gp, tab, simprocAttr, reduceCtorEq, reduceIte]; first | trivial | (simp only [ll_takeL]; first | trivial | (repeat constructor; done)) | (repeat constructor)) (by decide) (by first | rfl | (simp only [List.length_cons, List.length_nil, List.length_append]; decide)) (by first | rfl | (simp only [scM, opl_sc, List.all_cons, List.all_nil, List.length_cons, List.length_nil]; first | rfl | decide) | (simp [scM, scA, sc1, mpKeep, notAnc]; done)) (by simp only [dstOk, Nat.reduceLT]) (runs_eval tab_ok ?_))
        · (first | exact trivial | omega | (simp only [In64] at *; omega) | (simp [In64] at *; omega) | (simp_all; done) | skip)
        · (simp only [argsM, argM1, peekG, peekS, scA, sc1, ren, ren1, List.map_cons, List.map_nil, List.append_nil, List.cons_append, List.nil_append, enA, ev0, evA, evB, evP, fl, gp, tab, simprocAttr, reduceCtorEq, reduceIte]; try trivial)
        simp only [putM, hset, List.range', Blk.ren, ren, ren1, List.map_cons, List.map_nil, List.cons_append, List.nil_append, List.append_nil, List.length_cons, List.length_nil, ev0, evA, evB, evP, fl, gp, tab, simprocAttr, reduceCtorEq, reduceIte]
        refine fin_stop ?_ (runs_callM [3, 4] (add_c hp hsq1 (by omega) (spK n m p n) (spK_ech hp m n) (sbl f h) (by rw [sbl_len]; exact f1) (fun t ht => by rw [sbl_get (by omega)]; have := f2 t (by omega); have := h2 t (by omega); omega)) rfl rfl ?_ (by simp only [leA, ev0, evA, evB, evP, fl, gp, tab, simprocAttr, reduceCtorEq, reduceIte]; first | trivial | (simp only [ll_takeL]; first | trivial | (repeat constructor; done)) | (repeat constructor)) (by decide) (by first | rfl | (simp only [List.length_cons, List.length_nil, List.length_append]; decide)) (by first | rfl | (simp only [scM, opl_sc, List.all_cons, List.all_nil, List.length_cons, List.length_nil]; first | rfl | decide) | (simp [scM, scA, sc1, mpKeep, notAnc]; done)) (by simp only [dstOk, Nat.reduceLT]) (runs_eval tab_ok ?_))
        · (first | exact trivial | omega | (simp only [In64] at *; omega) | (simp [In64] at *; omega) | (simp_all; done) | skip)
        · (simp only [argsM, argM1, peekG, peekS, scA, sc1, ren, ren1, List.map_cons, List.map_nil, List.append_nil, List.cons_append, List.nil_append, enA, ev0, evA, evB, evP, fl, gp, tab, simprocAttr, reduceCtorEq, reduceIte]; try trivial)
        simp only [putM, hset, List.range', Blk.ren, ren, ren1, List.map_cons, List.map_nil, List.cons_append, List.nil_append, List.append_nil, List.length_cons, List.length_nil, ev0, evA, evB, evP, fl, gp, tab, simprocAttr, reduceCtorEq, reduceIte]
        refine fin_run ?_ (hK _ ?_) <;> clear hK <;> clear K
        · (first | exact trivial | omega | (simp only [In64] at *; omega) | (simp [In64] at *; omega) | (simp_all; done) | skip)
        refine qa (qk ?_)
        simp only [Tryd.results38, enA, ev0, evA, evB, evP, fl, gp, tab, simprocAttr, reduceCtorEq, reduceIte]
        have hF : saF n m p f h = (0, 0) := by unfold saF; rw [if_neg (by simpa using hf0), h4]
        have hB : saB n m p f h = !(addL p (spK n m p n) (sbl f h)).2 := by unfold saB; rw [hF]; rfl
        simp [hF, hB]

/-! ### What is made -/

def exO (n : Nat) (m : List Int) (p : Nat) (f : List Int) (i k : Nat) : Nat := op m n (i / p) (k / p) * p + (i % p + k % p + (F2 n f (i / p) (k / p)).toNat) % p

/-- The fault of what is made. -/
def maF (N : Int) (m : List Int) (p : Int) (f : List Int) : Int × Int :=
  if ¬ (xf N m p).1 = 0 then xf N m p else if ¬ (cf N.toNat m p.toNat f).1 = 0 then cf N.toNat m p.toNat f else if N * p > 60 then (9, 0) else (0, 0)

theorem made_no1 (N : Int) (m : List Int) (p : Int) (f : List Int) (hm : m.length ≤ 1000000000000000) (hx : ¬ (xf N m p).1 = 0) : FnC Tryd.prog 30 [gp N m, .int .i64 p, .list (il f)] (.tup [gp 0 [], fl (xf N m p)]) := by
  refine fnc_of tab_ok Tryd.func30 rfl (by kernel_rfl) (by rw [Tryd.ntmps30]; exact Nat.le_add_left 3 _) ?_; rw [Tryd.ntmps30]
  refine qm ?_
  refine hk_region fun K hK => runs_eval tab_ok ?_
  simp only [ev0, evA, evB, evP, fl, gp, tab, simprocAttr, reduceCtorEq, reduceIte]
  refine fin_run ?_ (hK _ ?_) <;> clear hK <;> clear K
  · (first | exact trivial | omega | (simp only [In64] at *; omega) | (simp [In64] at *; omega) | (simp_all; done) | skip)
  refine qa (qm (qm ?_))
  refine hk_region fun K hK => runs_eval tab_ok ?_
  simp only [ev0, evA, evB, evP, fl, gp, tab, simprocAttr, reduceCtorEq, reduceIte]
  refine fin_stop trivial (runs_call (xcheck_no N m p f hm hx) rfl rfl rfl (by simp only [dstOk, Nat.reduceLT]) (by repeat (first | exact trivial | constructor)) (runs_eval tab_ok ?_))
  simp only [ev0, evA, evB, evP, fl, gp, tab, simprocAttr, reduceCtorEq, reduceIte]
  refine fin_run ?_ (hK _ ?_) <;> clear hK <;> clear K
  · (first | exact trivial | omega | (simp only [In64] at *; omega) | (simp [In64] at *; omega) | (simp_all; done) | skip)
  refine qa (qm ?_)
  refine hk_region fun K hK => runs_eval tab_ok ?_
  simp only [ev0, evA, evB, evP, fl, gp, tab, simprocAttr, reduceCtorEq, reduceIte]
  refine fin_run ?_ (hK _ ?_) <;> clear hK <;> clear K
  · (first | exact trivial | omega | (simp only [In64] at *; omega) | (simp [In64] at *; omega) | (simp_all; done) | skip)
  refine qa ?_
  refine hk_cond rfl (fun hC1 => ?_) (fun hC1 => ?_)
  · (try simp only [nhs] at hC1)
    refine qm ?_
    refine hk_draw2 mixed fun K hK => runs2_eval tab_ok ?_
    simp only [evD, ev0, evA, evB, evP, fl, gp, tab, simprocAttr, reduceCtorEq, reduceIte]
    refine fin2_run ?_ (hK _ _ (by first | kernel_rfl | rfl) ?_) <;> clear hK <;> clear K
    · (first | exact trivial | omega | (simp only [In64] at *; omega) | (simp [In64] at *; omega) | (simp_all; done) | skip)
    refine qa (qk (qb ?_))
    simp only [Tryd.results30, enA, ev0, evA, evB, evP, fl, gp, tab, simprocAttr, reduceCtorEq, reduceIte]
    all_goals ((first | exact rfl | exact ⟨rfl, rfl⟩ | exact ⟨rfl, rfl, rfl⟩ | exact ⟨trivial, rfl⟩ | exact ⟨Nat.le_refl _, rfl⟩ | trivial | (simp; done)))
  · (try simp only [nhs] at hC1)
    exact absurd hC1 hx

theorem made_no2 {n e p : Nat} {m : List Int} (h : GT n m n e) (hn : n ≤ 12) (hp : pr p) (f : List Int) (hf : f.length ≤ 1000000000000000) (hx : ¬ (cf n m p f).1 = 0) : FnC Tryd.prog 30 [gp n m, .int .i64 p, .list (il f)] (.tup [gp 0 [], fl (cf n m p f)]) := by
  refine fnc_of tab_ok Tryd.func30 rfl (by kernel_rfl) (by rw [Tryd.ntmps30]; exact Nat.le_add_left 3 _) ?_; rw [Tryd.ntmps30]
  refine qm ?_
  refine hk_region fun K hK => runs_eval tab_ok ?_
  simp only [ev0, evA, evB, evP, fl, gp, tab, simprocAttr, reduceCtorEq, reduceIte]
  refine fin_run ?_ (hK _ ?_) <;> clear hK <;> clear K
  · (first | exact trivial | omega | (simp only [In64] at *; omega) | (simp [In64] at *; omega) | (simp_all; done) | skip)
  refine qa (qm (qm ?_))
  refine hk_region fun K hK => runs_eval tab_ok ?_
  simp only [ev0, evA, evB, evP, fl, gp, tab, simprocAttr, reduceCtorEq, reduceIte]
  refine fin_stop trivial (runs_call (xcheck_ok h hn hp f hf) rfl rfl rfl (by simp only [dstOk, Nat.reduceLT]) (by repeat (first | exact trivial | constructor)) (runs_eval tab_ok ?_))
  simp only [ev0, evA, evB, evP, fl, gp, tab, simprocAttr, reduceCtorEq, reduceIte]
  refine fin_run ?_ (hK _ ?_) <;> clear hK <;> clear K
  · (first | exact trivial | omega | (simp only [In64] at *; omega) | (simp [In64] at *; omega) | (simp_all; done) | skip)
  refine qa (qm ?_)
  refine hk_region fun K hK => runs_eval tab_ok ?_
  simp only [ev0, evA, evB, evP, fl, gp, tab, simprocAttr, reduceCtorEq, reduceIte]
  refine fin_run ?_ (hK _ ?_) <;> clear hK <;> clear K
  · (first | exact trivial | omega | (simp only [In64] at *; omega) | (simp [In64] at *; omega) | (simp_all; done) | skip)
  refine qa ?_
  refine hk_cond rfl (fun hC1 => ?_) (fun hC1 => ?_)
  · (try simp only [nhs] at hC1)
    refine qm ?_
    refine hk_draw2 mixed fun K hK => runs2_eval tab_ok ?_
    simp only [evD, ev0, evA, evB, evP, fl, gp, tab, simprocAttr, reduceCtorEq, reduceIte]
    refine fin2_run ?_ (hK _ _ (by first | kernel_rfl | rfl) ?_) <;> clear hK <;> clear K
    · (first | exact trivial | omega | (simp only [In64] at *; omega) | (simp [In64] at *; omega) | (simp_all; done) | skip)
    refine qa (qk (qb ?_))
    simp only [Tryd.results30, enA, ev0, evA, evB, evP, fl, gp, tab, simprocAttr, reduceCtorEq, reduceIte]
    all_goals ((first | exact rfl | exact ⟨rfl, rfl⟩ | exact ⟨rfl, rfl, rfl⟩ | exact ⟨trivial, rfl⟩ | exact ⟨Nat.le_refl _, rfl⟩ | trivial | (simp; done)))
  · (try simp only [nhs] at hC1)
    exact absurd hC1 hx

theorem made_no3 {n e p : Nat} {m : List Int} (h : GT n m n e) (hn : n ≤ 12) (hp : pr p) (f : List Int) (hf : f.length ≤ 1000000000000000) (hx : (cf n m p f).1 = 0) (hb : n * p > 60) : FnC Tryd.prog 30 [gp n m, .int .i64 p, .list (il f)] (.tup [gp 0 [], fl (9, 0)]) := by
  have hp2 := hp.le
  have c0 : (n : Int) * (p : Int) = ((n * p : Nat) : Int) := (Int.natCast_mul n p).symm
  have hnp : n * p ≤ 84 := Nat.mul_le_mul hn hp2.2
  refine fnc_of tab_ok Tryd.func30 rfl (by kernel_rfl) (by rw [Tryd.ntmps30]; exact Nat.le_add_left 3 _) ?_; rw [Tryd.ntmps30]
  refine qm ?_
  refine hk_region fun K hK => runs_eval tab_ok ?_
  simp only [ev0, evA, evB, evP, fl, gp, tab, simprocAttr, reduceCtorEq, reduceIte]
  refine fin_run ?_ (hK _ ?_) <;> clear hK <;> clear K
  · (first | exact trivial | omega | (simp only [In64] at *; omega) | (simp [In64] at *; omega) | (simp_all; done) | skip)
  refine qa (qm (qm ?_))
  refine hk_region fun K hK => runs_eval tab_ok ?_
  simp only [ev0, evA, evB, evP, fl, gp, tab, simprocAttr, reduceCtorEq, reduceIte]
  refine fin_stop trivial (runs_call (xcheck_ok h hn hp f hf) rfl rfl rfl (by simp only [dstOk, Nat.reduceLT]) (by repeat (first | exact trivial | constructor)) (runs_eval tab_ok ?_))
  simp only [ev0, evA, evB, evP, fl, gp, tab, simprocAttr, reduceCtorEq, reduceIte]
  refine fin_run ?_ (hK _ ?_) <;> clear hK <;> clear K
  · (first | exact trivial | omega | (simp only [In64] at *; omega) | (simp [In64] at *; omega) | (simp_all; done) | skip)
  refine qa (qm ?_)
  refine hk_region fun K hK => runs_eval tab_ok ?_
  simp only [ev0, evA, evB, evP, fl, gp, tab, simprocAttr, reduceCtorEq, reduceIte]
  refine fin_run ?_ (hK _ ?_) <;> clear hK <;> clear K
  · (first | exact trivial | omega | (simp only [In64] at *; omega) | (simp [In64] at *; omega) | (simp_all; done) | skip)
  refine qa ?_
  refine hk_cond rfl (fun hC1 => ?_) (fun hC1 => ?_)
  · (try simp only [nhs] at hC1)
    exact absurd hx hC1
  · (try simp only [nhs] at hC1)
    refine qh (qa (qm (qm ?_)))
    refine hk_region fun K hK => runs_eval tab_ok ?_
    simp only [ev0, evA, evB, evP, fl, gp, tab, simprocAttr, reduceCtorEq, reduceIte, c0]
    refine fin_run ?_ (hK _ ?_) <;> clear hK <;> clear K
    · (first | exact trivial | omega | (simp only [In64] at *; omega) | (simp [In64] at *; omega) | (simp_all; done) | skip)
    refine qa ?_
    refine hk_cond rfl (fun hC2 => ?_) (fun hC2 => ?_)
    · (try simp only [nhs] at hC2)
      refine qm ?_
      refine hk_region fun K hK => runs_eval tab_ok ?_
      simp only [ev0, evA, evB, evP, fl, gp, tab, simprocAttr, reduceCtorEq, reduceIte]
      refine fin_stop trivial (runs_call (xfault_c 9 0) rfl rfl rfl (by simp only [dstOk, Nat.reduceLT]) (by repeat (first | exact trivial | constructor)) (runs_eval tab_ok ?_))
      simp only [ev0, evA, evB, evP, fl, gp, tab, simprocAttr, reduceCtorEq, reduceIte]
      refine fin_run ?_ (hK _ ?_) <;> clear hK <;> clear K
      · (first | exact trivial | omega | (simp only [In64] at *; omega) | (simp [In64] at *; omega) | (simp_all; done) | skip)
      refine qa (qk (qb ?_))
      simp only [Tryd.results30, enA, ev0, evA, evB, evP, fl, gp, tab, simprocAttr, reduceCtorEq, reduceIte]
      all_goals ((first | exact rfl | exact ⟨rfl, rfl⟩ | exact ⟨rfl, rfl, rfl⟩ | exact ⟨trivial, rfl⟩ | exact ⟨Nat.le_refl _, rfl⟩ | trivial | (simp; done)))
    · (try simp only [nhs] at hC2)
      omega

theorem xmade_ok {n e p : Nat} {m : List Int} (h : GT n m n e) (hn : n ≤ 12) (hp : pr p) (f : List Int) (hf : f.length ≤ 1000000000000000) (hx : (cf n m p f).1 = 0) (hb : n * p ≤ 60) :
    FnC Tryd.prog 30 [gp n m, .int .i64 p, .list (il f)] (.tup [gp (n * p : Nat) (tbl (fun i k => ((exO n m p f i k : Nat) : Int)) (n * p)), fl (0, 0)]) := by
  have T := h.2.1
  have hp2 := hp.le
  have c0 : (n : Int) * (p : Int) = ((n * p : Nat) : Int) := (Int.natCast_mul n p).symm
  obtain ⟨f1, f2, f3, f4⟩ := cf_0 hx
  have hsq : n * p * (n * p) ≤ 3600 := Nat.mul_le_mul hb hb
  have hnn : n * n ≤ 144 := Nat.mul_le_mul hn hn
  have hlen := tbr_len (fun i k => ((exO n m p f i k : Nat) : Int)) (n * p)
  refine fnc_of tab_ok Tryd.func30 rfl (by kernel_rfl) (by rw [Tryd.ntmps30]; exact Nat.le_add_left 3 _) ?_; rw [Tryd.ntmps30]
  refine qm ?_
  refine hk_region fun K hK => runs_eval tab_ok ?_
  simp only [ev0, evA, evB, evP, fl, gp, tab, simprocAttr, reduceCtorEq, reduceIte]
  refine fin_run ?_ (hK _ ?_) <;> clear hK <;> clear K
  · (first | exact trivial | omega | (simp only [In64] at *; omega) | (simp [In64] at *; omega) | (simp_all; done) | skip)
  refine qa (qm (qm ?_))
  refine hk_region fun K hK => runs_eval tab_ok ?_
  simp only [ev0, evA, evB, evP, fl, gp, tab, simprocAttr, reduceCtorEq, reduceIte]
  refine fin_stop trivial (runs_call (xcheck_ok h hn hp f hf) rfl rfl rfl (by simp only [dstOk, Nat.reduceLT]) (by repeat (first | exact trivial | constructor)) (runs_eval tab_ok ?_))
  simp only [ev0, evA, evB, evP, fl, gp, tab, simprocAttr, reduceCtorEq, reduceIte]
  refine fin_run ?_ (hK _ ?_) <;> clear hK <;> clear K
  · (first | exact trivial | omega | (simp only [In64] at *; omega) | (simp [In64] at *; omega) | (simp_all; done) | skip)
  refine qa (qm ?_)
  refine hk_region fun K hK => runs_eval tab_ok ?_
  simp only [ev0, evA, evB, evP, fl, gp, tab, simprocAttr, reduceCtorEq, reduceIte]
  refine fin_run ?_ (hK _ ?_) <;> clear hK <;> clear K
  · (first | exact trivial | omega | (simp only [In64] at *; omega) | (simp [In64] at *; omega) | (simp_all; done) | skip)
  refine qa ?_
  refine hk_cond rfl (fun hC1 => ?_) (fun hC1 => ?_)
  · (try simp only [nhs] at hC1)
    exact absurd hx hC1
  · (try simp only [nhs] at hC1)
    refine qh (qa (qm (qm ?_)))
    refine hk_region fun K hK => runs_eval tab_ok ?_
    simp only [ev0, evA, evB, evP, fl, gp, tab, simprocAttr, reduceCtorEq, reduceIte, c0]
    refine fin_run ?_ (hK _ ?_) <;> clear hK <;> clear K
    · (first | exact trivial | omega | (simp only [In64] at *; omega) | (simp [In64] at *; omega) | (simp_all; done) | skip)
    refine qa ?_
    refine hk_cond rfl (fun hC2 => ?_) (fun hC2 => ?_)
    · (try simp only [nhs] at hC2)
      omega
    · (try simp only [nhs] at hC2)
      refine qh (qa (qm ?_))
      refine hk_region fun K hK => runs_eval tab_ok ?_
      simp only [ev0, evA, evB, evP, fl, gp, tab, simprocAttr, reduceCtorEq, reduceIte, c0]
      refine fin_run ?_ (hK _ ?_) <;> clear hK <;> clear K
      · (first | exact trivial | omega | (simp only [In64] at *; omega) | (simp [In64] at *; omega) | (simp_all; done) | skip)
      refine qa (qm (qm ?_))
      refine hk_own0c 4 1 rfl rfl ?_
      simp only [hset, List.cons_append, List.nil_append, List.set, List.length_cons, List.length_nil]
      refine hk_region fun K hK => runs_eval tab_ok ?_
      simp only [ev0, evA, evB, evP, fl, gp, tab, simprocAttr, reduceCtorEq, reduceIte]
      refine fin_run ?_ (hK _ ?_) <;> clear hK <;> clear K
      · (first | exact trivial | omega | (simp only [In64] at *; omega) | (simp [In64] at *; omega) | (simp_all; done) | skip)
      refine qa (ql ?_)
      refine hk_loop (ι := Nat) (fun i => ⟨90, [(1, .p (.int .i64 p)), (2, .p (.list (il f))), (3, .ptr 0 0), (6, .ptr 1 0), (7, .ptr 2 0), (9, .ptr 3 0), (38, .p (.int .i64 (n * p : Nat))), (39, .p (.int .i64 i))], [.own [.p (.int .i64 n), .p (.list (il m))], .own [.p (.int .i64 0), .p .nil], .own [.p (.int .i64 0), .p (.int .i64 0)], .own [.p (.int .i64 (n * p : Nat)), .sl 4 0 (tbr (fun i k => ((exO n m p f i k : Nat) : Int)) (n * p) (i * (n * p))).length], .own (ol (tbr (fun i k => ((exO n m p f i k : Nat) : Int)) (n * p) (i * (n * p))))]⟩) (fun i => i ≤ n * p) (fun i => n * p - i) 0 (Nat.zero_le _) [0, 1, 2, 4, 5] (by rw [Nat.zero_mul]; simp only [leq, leA, ev0, evA, evB, evP, fl, gp, tab, simprocAttr, reduceCtorEq, reduceIte] <;> simp [tbr, rg, ol_nil]) fun i hi => ?_
      refine qm ?_
      refine hk_region fun K hK => runs_eval tab_ok ?_
      simp only [ev0, evA, evB, evP, fl, gp, tab, simprocAttr, reduceCtorEq, reduceIte]
      refine fin_run trivial (hK _ ?_) <;> clear hK <;> clear K
      refine qa (qm ?_)
      refine hk_cond rfl (fun hC3 => ?_) (fun hC3 => ?_)
      · (try simp only [nhs] at hC3)
        have hil : i < n * p := by omega
        refine qh (qa (qm (ql (qm ?_))))
        refine hk_region fun K hK => runs_eval tab_ok ?_
        simp only [ev0, evA, evB, evP, fl, gp, tab, simprocAttr, reduceCtorEq, reduceIte]
        refine fin_run trivial (hK _ ?_) <;> clear hK <;> clear K
        refine qa (qm ?_)
        refine hk_region fun K hK => runs_eval tab_ok ?_
        simp only [ev0, evA, evB, evP, fl, gp, tab, simprocAttr, reduceCtorEq, reduceIte]
        refine fin_run ?_ (hK _ ?_) <;> clear hK <;> clear K
        · (first | exact trivial | omega | (simp only [In64] at *; omega) | (simp [In64] at *; omega) | (simp_all; done) | skip)
        refine qa (ql ?_)
        refine hk_loop (ι := Nat) (fun k => ⟨90, [(1, .p (.int .i64 p)), (2, .p (.list (il f))), (3, .ptr 0 0), (6, .ptr 1 0), (7, .ptr 2 0), (9, .ptr 3 0), (10, .p (.int .i64 i)), (38, .p (.int .i64 (n * p : Nat))), (39, .p (.int .i64 i)), (43, .p (.int .i64 (n * p : Nat))), (44, .p (.int .i64 k))], [.own [.p (.int .i64 n), .p (.list (il m))], .own [.p (.int .i64 0), .p .nil], .own [.p (.int .i64 0), .p (.int .i64 0)], .own [.p (.int .i64 (n * p : Nat)), .sl 4 0 (tbr (fun i k => ((exO n m p f i k : Nat) : Int)) (n * p) (i * (n * p) + k)).length], .own (ol (tbr (fun i k => ((exO n m p f i k : Nat) : Int)) (n * p) (i * (n * p) + k)))]⟩) (fun k => k ≤ n * p) (fun k => n * p - k) 0 (Nat.zero_le _) [0, 1, 2, 3, 4] (by rw [Nat.add_zero]; simp only [leq, leA, ev0, evA, evB, evP, fl, gp, tab, simprocAttr, reduceCtorEq, reduceIte] <;> trivial) fun k hk => ?_
        refine qm ?_
        refine hk_region fun K hK => runs_eval tab_ok ?_
        simp only [ev0, evA, evB, evP, fl, gp, tab, simprocAttr, reduceCtorEq, reduceIte]
        refine fin_run trivial (hK _ ?_) <;> clear hK <;> clear K
        refine qa (qm ?_)
        refine hk_cond rfl (fun hC4 => ?_) (fun hC4 => ?_)
        · (try simp only [nhs] at hC4)
          have hkl : k < n * p := by omega
          have hip : i / p < n := (Nat.div_lt_iff_lt_mul (by omega)).2 hil
          have hkp : k / p < n := (Nat.div_lt_iff_lt_mul (by omega)).2 hkl
          have q1 : (0 : Int) ≤ ((i / p : Nat) : Int) := Int.natCast_nonneg _
          have q2 : (0 : Int) ≤ ((k / p : Nat) : Int) := Int.natCast_nonneg _
          have hop := T.lt hip hkp
          have hat := at_lt hip hkp
          have hat2 := at_lt hil hkl
          have hl := hlen (i * (n * p) + k)
          have hm1 : i % p < p := Nat.mod_lt _ (by omega)
          have hm2 : k % p < p := Nat.mod_lt _ (by omega)
          have hF := f2 (i / p * n + k / p) (by omega)
          have hFe : (il f).getD (i / p * n + k / p) default = .int .i64 (((F2 n f (i / p) (k / p)).toNat : Nat) : Int) := by
            rw [il_get (by omega)]
            congr 1
            unfold F2
            omega
          have hFl : (F2 n f (i / p) (k / p)).toNat < p := by unfold F2; omega
          have c1 : ((i / p : Nat) : Int) * (n : Int) = ((i / p * n : Nat) : Int) := (Int.natCast_mul _ n).symm
          have c2 : ((op m n (i / p) (k / p) : Nat) : Int) * (p : Int) = ((op m n (i / p) (k / p) * p : Nat) : Int) := (Int.natCast_mul _ p).symm
          have c3 : op m n (i / p) (k / p) * p ≤ 84 := Nat.le_trans (Nat.mul_le_mul (Nat.le_of_lt (Nat.lt_of_lt_of_le hop hn)) hp2.2) (by decide)
          have c4 : ((i % p : Nat) : Int) + ((k % p : Nat) : Int) + (((F2 n f (i / p) (k / p)).toNat : Nat) : Int) = ((i % p + k % p + (F2 n f (i / p) (k / p)).toNat : Nat) : Int) := rfl
          have c5 : ((op m n (i / p) (k / p) * p : Nat) : Int) + (((i % p + k % p + (F2 n f (i / p) (k / p)).toNat) % p : Nat) : Int) = ((exO n m p f i k : Nat) : Int) := rfl
          have c6 : exO n m p f i k ≤ 100 := by
            have := Nat.mod_lt (i % p + k % p + (F2 n f (i / p) (k / p)).toNat) (show p > 0 by omega)
            unfold exO; omega
          refine qh (qa (qm (ql (qm ?_))))
          refine hk_region fun K hK => runs_eval tab_ok ?_
          simp only [ev0, evA, evB, evP, fl, gp, tab, simprocAttr, reduceCtorEq, reduceIte]
          refine fin_run trivial (hK _ ?_) <;> clear hK <;> clear K
          refine qa (qm ?_)
          refine hk_draw mixed (by kernel_rfl) fun K hK => runs_eval tab_ok ?_
          simp only [ev0, evA, evB, evP, fl, gp, tab, simprocAttr, reduceCtorEq, reduceIte, td_nat, tm_nat]
          refine fin_run ?_ (hK _ ?_) <;> clear hK <;> clear K
          · simp only [In64]; refine ⟨⟨⟨⟨by omega, by omega⟩, by omega⟩, by omega, by omega⟩, by omega⟩
          refine qa ?_
          refine hk_draw mixed (by kernel_rfl) fun K hK => runs_eval tab_ok ?_
          simp only [ev0, evA, evB, evP, fl, gp, tab, simprocAttr, reduceCtorEq, reduceIte, at_nat, hFe, c2, c4, tm_nat, c5]
          refine fin_stop trivial (runs_call (of_c T hip hkp) rfl rfl rfl (by simp only [dstOk, Nat.reduceLT]) (by repeat (first | exact trivial | constructor)) (runs_eval tab_ok ?_))
          simp only [ev0, evA, evB, evP, fl, gp, tab, simprocAttr, reduceCtorEq, reduceIte, at_nat, hFe, c2, c4, tm_nat, c5]
          refine fin_run ?_ (hK _ ?_) <;> clear hK <;> clear K
          · rw [c1]; simp only [In64]; omega
          refine qd (qa ?_)
          refine hk_region fun K hK => runs_eval tab_ok ?_
          simp only [ev0, evA, evB, evP, fl, gp, tab, simprocAttr, reduceCtorEq, reduceIte]
          refine fin_run ?_ (hK _ ?_) <;> clear hK <;> clear K
          · (first | exact trivial | omega | (simp only [In64] at *; omega) | (simp [In64] at *; omega) | (simp_all; done) | skip)
          refine qa ?_
          refine ⟨k + 1, [0, 1, 2, 3, 5], by omega, by omega, ?_⟩
          rw [← Nat.add_assoc, show i * (n * p) + k + 1 = i * (n * p) + (k + 1) by omega, tbr_succ _ hkl]
          simp only [leq, leA, ev0, evA, evB, evP, fl, gp, tab, simprocAttr, reduceCtorEq, reduceIte] <;> first | trivial | omega
        · (try simp only [nhs] at hC4)
          have hkn : k = n * p := by omega
          refine qj (qc (qc (qf (qd (qa ?_)))))
          refine hk_region fun K hK => runs_eval tab_ok ?_
          simp only [ev0, evA, evB, evP, fl, gp, tab, simprocAttr, reduceCtorEq, reduceIte]
          refine fin_run ?_ (hK _ ?_) <;> clear hK <;> clear K
          · (first | exact trivial | omega | (simp only [In64] at *; omega) | (simp [In64] at *; omega) | (simp_all; done) | skip)
          refine qa ?_
          refine ⟨i + 1, [0, 1, 2, 3, 4], by omega, by omega, ?_⟩
          rw [hkn, show (i + 1) * (n * p) = i * (n * p) + n * p by rw [Nat.add_mul, Nat.one_mul]]
          simp only [leq, leA, ev0, evA, evB, evP, fl, gp, tab, simprocAttr, reduceCtorEq, reduceIte] <;> first | trivial | omega
      · (try simp only [nhs] at hC3)
        have hin : i = n * p := by omega
        refine qj (qc (qc (qf (qa (qm ?_)))))
        refine hk_region fun K hK => runs_eval tab_ok ?_
        simp only [ev0, evA, evB, evP, fl, gp, tab, simprocAttr, reduceCtorEq, reduceIte]
        refine fin_run ?_ (hK _ ?_) <;> clear hK <;> clear K
        · (first | exact trivial | omega | (simp only [In64] at *; omega) | (simp [In64] at *; omega) | (simp_all; done) | skip)
        refine qa (qk ?_)
        simp only [Tryd.results30, enA, ev0, evA, evB, evP, fl, gp, tab, simprocAttr, reduceCtorEq, reduceIte]
        all_goals (simp [hin, tbl])

end Go.Proofs.YtjbfkdaodfdpcaaDoor

/-
  Bounds are cocycles; what is the same. Plain law. Conditions: none.
-/
set_option linter.all false
namespace Go.Proofs.YtjbfkdaodfdpcaaDoor
open Go.Pv

theorem emod_zero_rng {p n : Nat} (hp : 0 < p) : rng p (List.replicate n (0 : Int)) := fun t ht => by
  rw [List.length_replicate] at ht
  have : (List.replicate n (0 : Int)).getD t 0 = 0 := by simp [ht]
  rw [this]; omega

/-- What is a cocycle modulo a prime. -/
theorem coc_of {n e p : Nat} {m : List Int} (h : GT n m n e) {f : List Int} {r : Nat → Nat → Int} (hf : ∀ a b, a < n → b < n → (p : Int) ∣ F2 n f a b - r a b)
    (hr : ∀ a b c, a < n → b < n → c < n → r b c + r a (op m n b c) = r (op m n a b) c + r a b) {a : Nat} (ha : a < n) : cocA n m p f a := by
  intro b hb c hc
  have hab := h.2.1.lt ha hb
  have hbc := h.2.1.lt hb hc
  unfold coc
  rw [emod_iff]
  have h1 := hf b c hb hc
  have h2 := hf a _ ha hbc
  have h3 := hf _ c hab hc
  have h4 := hf a b ha hb
  have h5 := hr a b c ha hb hc
  have h6 := Int.dvd_sub (Int.dvd_add h1 h2) (Int.dvd_add h3 h4)
  rwa [show F2 n f b c - r b c + (F2 n f a (op m n b c) - r a (op m n b c)) - (F2 n f (op m n a b) c - r (op m n a b) c + (F2 n f a b - r a b)) = F2 n f b c + F2 n f a (op m n b c) - (F2 n f (op m n a b) c + F2 n f a b) by omega] at h6

theorem zero_cf {n e p : Nat} {m : List Int} (h : GT n m n e) (hp : pr p) : cf n m p (List.replicate (n * n) 0) = (0, 0) := by
  have hp2 := hp.le
  refine cf_of (by simp) (emod_zero_rng (by omega)) fun a ha => coc_of h (r := fun _ _ => 0) (fun a b ha hb => ?_) (fun _ _ _ _ _ _ => rfl) ha
  have : F2 n (List.replicate (n * n) (0 : Int)) a b = 0 := by unfold F2; simp [at_lt ha hb]
  rw [this]; exact Int.dvd_zero _

/-- WHAT IS THE SAME: what differs by a bound. -/
theorem same_iff {n e p : Nat} {m : List Int} (h : GT n m n e) (hp : pr p) {f g : List Int} (hf : (cf n m p f).1 = 0) (hg : (cf n m p g).1 = 0) :
    saB n m p f g = true ↔ ∃ c : Nat → Int, ∀ t, t < n * n → (p : Int) ∣ f.getD t 0 - g.getD t 0 - dB n m c t := by
  have T := h.2.1
  obtain ⟨f1, _, _, hz⟩ := cf_0 hf
  obtain ⟨_, _, _, hz2⟩ := cf_0 hg
  have hF : (saF n m p f g).1 = 0 := by unfold saF; rw [if_neg (by simpa using hf)]; exact hg
  have hl : (sbl f g).length = n * n := by rw [sbl_len, f1]
  have h1 := (addL_spec hp (spK_ech hp m n) hl).2.1
  have e1 : saB n m p f g = !(addL p (spK n m p n) (sbl f g)).2 := by unfold saB; rw [decide_eq_true hF]; rfl
  have e2 : saB n m p f g = true ↔ (addL p (spK n m p n) (sbl f g)).2 = false := by rw [e1]; cases (addL p (spK n m p n) (sbl f g)).2 <;> simp
  rw [e2, h1, spK_sp hp T n (Nat.le_refl _)]
  constructor
  · rintro ⟨c, _, hc⟩
    refine ⟨c, fun t ht => ?_⟩
    have := hc t ht
    rwa [sbl_get (by omega)] at this
  · rintro ⟨c, hc⟩
    refine ⟨fun a => if a < n then c a else 0, fun a ha => if_neg (by omega), fun t ht => ?_⟩
    have := hc t ht
    rw [sbl_get (by omega), dB_congr T (d := c) (fun a ha => if_pos ha) ht]
    exact this

theorem saF_0 {n p : Nat} {m : List Int} {f g : List Int} (hf : (cf n m p f).1 = 0) (hg : (cf n m p g).1 = 0) : saF n m p f g = (0, 0) := by
  unfold saF; rw [if_neg (by simpa using hf)]; exact (cf_0 hg).2.2.2

end Go.Proofs.YtjbfkdaodfdpcaaDoor

/-
  Walks: extensions: Sizes, and the example of the document. Conditions: none.
-/
set_option linter.all false
namespace Go.Pv
open Go.RowKit

/-- Two rows of three numbers, compared. -/
theorem arrEq3_does {P : Program} {T : TypeId → Option TI} {s : St} (hT : ∀ t ti, T t = some ti → tiOf P t = some ti) {o : Oper} {t u : TypeId} {x y : Operand} (ho : o.op = .binOp .eql t x y u) {ti te : TI} (ht : T t = some ti) {e : TypeId} (hk : ti.kind = .array 3 e) (hte : T e = some te) (hki : te.kind = .int .i64) (hsz : te.size = 1)
    {a b c a' b' c' : Int} (hx : s.ev x = .p (.agg [.int .i64 a, .int .i64 b, .int .i64 c])) (hy : s.ev y = .p (.agg [.int .i64 a', .int .i64 b', .int .i64 c'])) (hge : P.eqGuardType P.depth t = false) : DoesW P o s (.p (.bool (a == a' && (b == b' && c == c')))) s.H := by
  intro C m ac w K Q R hK
  have get : ∀ {z : Operand} {a b c : Int}, s.ev z = .p (.agg [.int .i64 a, .int .i64 b, .int .i64 c]) → ac.eval z = .agg #[.int .i64 a, .int .i64 b, .int .i64 c] := by
    intro z a b c hz
    have h := R.ev z
    rw [hz] at h
    generalize ac.eval z = v at h
    have h := h.p_inv
    cases h with
    | agg _ vs hl hr =>
      have h0 := (hr 0 (by simp)).int_inv
      have h1 := (hr 1 (by simp)).int_inv
      have h2 := (hr 2 (by simp)).int_inv
      congr 1
      simp only [List.length_cons, List.length_nil] at hl
      apply Array.ext
      · simp [hl]
      · intro i hi1 hi2
        match i, hi2 with
        | 0, _ => simpa [Array.getD_eq_getD_getElem?, hl] using h0
        | 1, _ => simpa [Array.getD_eq_getD_getElem?, hl] using h1
        | 2, _ => simpa [Array.getD_eq_getD_getElem?, hl] using h2
  have ex := get hx
  have ey := get hy
  have hu := ti_array (hT _ _ ht) hk
  have hue := ti_int (hT _ _ hte) hki
  obtain ⟨i, de, z, h1, h2, h3, h4, h5, h6, h7, h8⟩ := tiOf_parts (hT _ _ hte)
  have hce : P.cellsOf e = 1 := by simp [Program.cellsOf, h1, h4, hsz]
  have ag : ∀ w, (isAgg e).run P w = .ok false w := fun w => by simp [isAgg, run_underlying hue]
  have q0 : ∀ (x y z : Value) w, (part e #[x, y, z] 0).run P w = .ok x w := fun x y z w => by simp [part, ag]
  have q1 : ∀ (x y z : Value) w, (part e #[x, y, z] 1).run P w = .ok y w := fun x y z w => by simp [part, ag]
  have q2 : ∀ (x y z : Value) w, (part e #[x, y, z] 2).run P w = .ok z w := fun x y z w => by simp [part, ag]
  have en : ∀ (p q : Int) w, (Op.equalIn 9999 e (.int .i64 p) (.int .i64 q)).run P w = .ok (p == q) w := fun p q w => run_equalIn_num 9998 hue p q w
  have hr : (Op.equalIn 10000 t (.agg #[.int .i64 a, .int .i64 b, .int .i64 c]) (.agg #[.int .i64 a', .int .i64 b', .int .i64 c'])).run P w = .ok (a == a' && (b == b' && c == c')) w := by
    rw [run_equalIn_array w 9999 _ _ hu h1, hce]
    simp only [show List.range 3 = [0, 1, 2] from rfl, Op.eqItems, Sem.run_bind, q0, q1, q2, Result.andThen_ok, Nat.zero_mul, Nat.one_mul, Nat.mul_one, en]
    cases h1 : (a == a') <;> cases h2 : (b == b') <;> cases h3 : (c == c') <;> simp [q1, q2, en, h2, h3]
  have hgg : (eqGuard .eql t x y (.agg #[.int .i64 a, .int .i64 b, .int .i64 c]) (.agg #[.int .i64 a', .int .i64 b', .int .i64 c'])).run P w = .ok () w := by
    unfold eqGuard
    split <;> simp [hge]
  have hrun : (execOp ac.eval o).run P w = .ok (.value (.bool (a == a' && (b == b' && c == c')))) w := by
    simp only [execOp, ho, ex, ey, hgg, Sem.run_bind, Result.andThen_ok, run_eql_struct, hr, Sem.run_pure]
  refine opR_of_wp (by first | rfl | (rw [ho]; rfl)) ?_
  unfold Oper.wp
  rw [hrun]
  exact hK _ m w R (.p _ _ (.bool _))

end Go.Pv
namespace Go.Proofs.YtjbfkdaodfdpcaaDoor
open Go.Pv

/-- A number is added at a place. -/
def inc (i : Nat) (d : Int) (u : List Int) : List Int := u.set i (u.getD i 0 + d)
theorem inc_len (i : Nat) (d : Int) (u : List Int) : (inc i d u).length = u.length := by simp [inc]
theorem inc_get {i t : Nat} {d : Int} {u : List Int} (ht : t < u.length) : (inc i d u).getD t 0 = u.getD t 0 + if t = i then d else 0 := by
  unfold inc
  rw [List.getD_eq_getElem?_getD, List.getElem?_set]
  by_cases h : i = t
  · subst h; simp [ht]
  · rw [if_neg h, if_neg (fun e => h e.symm)]; simp

/-- The equation of three things. -/
def eqR (n : Nat) (m : List Int) (a b c : Nat) : List Int :=
  inc (a * n + b) (-1) (inc (a * n + op m n b c) 1 (inc (op m n a b * n + c) (-1) (inc (b * n + c) 1 (List.replicate (n * n) 0))))
theorem eqR_len (n : Nat) (m : List Int) (a b c : Nat) : (eqR n m a b c).length = n * n := by simp [eqR, inc_len]
theorem eqR_get {n : Nat} {m : List Int} {a b c t : Nat} (ht : t < n * n) : (eqR n m a b c).getD t 0 = (if t = b * n + c then 1 else 0) + (if t = op m n a b * n + c then -1 else 0) + (if t = a * n + op m n b c then 1 else 0) + (if t = a * n + b then -1 else 0) := by
  have hz : (List.replicate (n * n) (0 : Int)).getD t 0 = 0 := by simp [ht]
  rw [eqR, inc_get (by simp [inc_len]; exact ht), inc_get (by simp [inc_len]; exact ht), inc_get (by simp [inc_len]; exact ht), inc_get (by simp; exact ht), hz]
  omega

/-- All equations, in order: the k-th of them is that of k / n / n, k / n % n, k % n. -/
def eqK (n : Nat) (m : List Int) (p : Nat) : Nat → List (Nat × List Int)
  | 0 => []
  | k + 1 => (addL p (eqK n m p k) (eqR n m (k / (n * n)) (k / n % n) (k % n))).1
theorem eqK_ech {n p : Nat} (hp : pr p) (m : List Int) : ∀ k, Ech p (n * n) (eqK n m p k)
  | 0 => Ech.nil _ _
  | k + 1 => (addL_spec hp (eqK_ech hp m k) (eqR_len n m _ _ _)).1
theorem eqK_at {n a b c : Nat} (hb : b < n) (hc : c < n) : ((a * n + b) * n + c) / (n * n) = a ∧ ((a * n + b) * n + c) / n % n = b ∧ ((a * n + b) * n + c) % n = c := by
  obtain ⟨h1, h2⟩ := dm_at (n := n) (a := a * n + b) hc
  obtain ⟨h3, h4⟩ := dm_at (n := n) (a := a) hb
  exact ⟨by rw [← Nat.div_div_eq_div_mul, h1, h3], by rw [h1, h4], h2⟩

def szZ (n : Nat) (m : List Int) (p : Nat) : Int := ((n * n : Nat) : Int) - ((eqK n m p (n * n * n)).length : Int)
def szB (n : Nat) (m : List Int) (p : Nat) : Int := ((spK n m p n).length : Int)

theorem sizes_ok {n e p : Nat} {m : List Int} (h : GT n m n e) (hn : n ≤ 12) (hp : pr p) :
    FnC Tryd.prog 92 [gp n m, .int .i64 p] (.tup [.agg [.int .i64 ((n : Int) - szB n m p), .int .i64 (szZ n m p), .int .i64 (szZ n m p - szB n m p)], fl (0, 0)]) := by
  have T := h.2.1
  have hpos := T.pos
  have hml := T.len
  have hp2 := hp.le
  have hsq : n * n ≤ 144 := Nat.mul_le_mul hn hn
  have hsq1 : 0 < n * n := Nat.mul_pos hpos hpos
  have c0 : (n : Int) * (n : Int) = ((n * n : Nat) : Int) := (Int.natCast_mul n n).symm
  have E1 := eqK_ech hp m (n * n * n) (n := n)
  have E2 := spK_ech hp m n (n := n)
  have le_n : ∀ {L : List (Nat × List Int)}, Ech p (n * n) L → L.length ≤ n * n := fun {L} hL => by
    have := nodup_le (l := (L.map (·.1)).map fun k : Nat => (k : Int)) (l' := (List.range (n * n)).map fun k : Nat => (k : Int)) (List.pairwise_map.2 (List.Pairwise.imp (fun h e => h (by omega)) hL.keys)) (fun z hz => by
      obtain ⟨k, hk, rfl⟩ := List.mem_map.1 hz
      obtain ⟨e, he, rfl⟩ := List.mem_map.1 hk
      exact List.mem_map.2 ⟨e.1, List.mem_range.2 (hL.lt e he), rfl⟩)
    simpa using this
  have l1 := le_n E1
  have l2 := le_n E2
  refine fnc_of tab_ok Tryd.func92 rfl (by kernel_rfl) (by rw [Tryd.ntmps92]; exact Nat.le_add_left 2 _) ?_; rw [Tryd.ntmps92]
  refine qm ?_
  refine hk_region fun K hK => runs_eval tab_ok ?_
  simp only [ev0, evA, evB, evP, fl, gp, tab, simprocAttr, reduceCtorEq, reduceIte]
  refine fin_run ?_ (hK _ ?_) <;> clear hK <;> clear K
  · (first | exact trivial | omega | (simp only [In64] at *; omega) | (simp [In64] at *; omega) | (simp_all; done) | skip)
  refine qa (qm (qm ?_))
  refine hk_region fun K hK => runs_eval tab_ok ?_
  simp only [ev0, evA, evB, evP, fl, gp, tab, simprocAttr, reduceCtorEq, reduceIte]
  refine fin_stop trivial (runs_call (xlook_c n m p (by omega)) rfl rfl rfl (by simp only [dstOk, Nat.reduceLT]) (by repeat (first | exact trivial | constructor)) (runs_eval tab_ok ?_))
  simp only [ev0, evA, evB, evP, fl, gp, tab, simprocAttr, reduceCtorEq, reduceIte, xf_of h hn hp]
  refine fin_run ?_ (hK _ ?_) <;> clear hK <;> clear K
  · (first | exact trivial | omega | (simp only [In64] at *; omega) | (simp [In64] at *; omega) | (simp_all; done) | skip)
  refine qa (qm ?_)
  refine hk_region fun K hK => runs_eval tab_ok ?_
  simp only [ev0, evA, evB, evP, fl, gp, tab, simprocAttr, reduceCtorEq, reduceIte]
  refine fin_run ?_ (hK _ ?_) <;> clear hK <;> clear K
  · (first | exact trivial | omega | (simp only [In64] at *; omega) | (simp [In64] at *; omega) | (simp_all; done) | skip)
  refine qa ?_
  refine hk_cond rfl (fun hC1 => ?_) (fun hC1 => ?_)
  · cases hC1
  · (try simp only [nhs] at hC1)
    refine qh (qa (qm ?_))
    refine hk_region fun K hK => runs_eval tab_ok ?_
    simp only [ev0, evA, evB, evP, fl, gp, tab, simprocAttr, reduceCtorEq, reduceIte]
    refine fin_stop ?_ (runs_callM [] (newRows_c p) rfl rfl ?_ (by simp only [leA, ev0, evA, evB, evP, fl, gp, tab, simprocAttr, reduceCtorEq, reduceIte]; first | trivial | (simp only [ll_takeL]; first | trivial | (repeat constructor; done)) | (repeat constructor)) (by decide) (by first | rfl | (simp only [List.length_cons, List.length_nil, List.length_append]; decide)) (by first | rfl | (simp only [scM, opl_sc, List.all_cons, List.all_nil, List.length_cons, List.length_nil]; first | rfl | decide) | (simp [scM, scA, sc1, mpKeep, notAnc]; done)) (by simp only [dstOk, Nat.reduceLT]) (runs_eval tab_ok ?_))
    · (first | exact trivial | omega | (simp only [In64] at *; omega) | (simp [In64] at *; omega) | (simp_all; done) | skip)
    · (simp only [argsM, argM1, peekG, peekS, scA, sc1, ren, ren1, List.map_cons, List.map_nil, List.append_nil, List.cons_append, List.nil_append, enA, ev0, evA, evB, evP, fl, gp, tab, simprocAttr, reduceCtorEq, reduceIte]; try trivial)
    simp only [putM, hset, List.range', Blk.ren, ren, ren1, List.map_cons, List.map_nil, List.cons_append, List.nil_append, List.append_nil, List.length_cons, List.length_nil, ev0, evA, evB, evP, fl, gp, tab, simprocAttr, reduceCtorEq, reduceIte]
    refine fin_run trivial (hK _ ?_) <;> clear hK <;> clear K
    refine qa (qm (qm ?_))
    refine hk_region fun K hK => runs_eval tab_ok ?_
    simp only [ev0, evA, evB, evP, fl, gp, tab, simprocAttr, reduceCtorEq, reduceIte]
    refine fin_run ?_ (hK _ ?_) <;> clear hK <;> clear K
    · (first | exact trivial | omega | (simp only [In64] at *; omega) | (simp [In64] at *; omega) | (simp_all; done) | skip)
    refine qa (ql ?_)
    refine hk_loop (ι := Nat) (fun a => ⟨129, [(1, .p (.int .i64 p)), (2, .ptr 0 0), (4, .ptr 1 0), (5, .ptr 2 0), (7, .ptr 3 0), (25, .p (.int .i64 n)), (26, .p (.int .i64 a))], [.own [.p (.int .i64 n), .p (.list (il m))], .own [.p (.int .i64 0), .p (.int .i64 0), .p (.int .i64 0)], .own [.p (.int .i64 0), .p (.int .i64 0)], .own [.p (.int .i64 p), .mptr 4], .mp .i64 (dOf (eqK n m p (a * n * n))) (vOf (eqK n m p (a * n * n)))]⟩) (fun a => a ≤ n) (fun a => n - a) 0 (Nat.zero_le _) [0, 1, 2, 4, 5] (by simp only [Nat.zero_mul]; simp only [leq, leA, ev0, evA, evB, evP, fl, gp, tab, simprocAttr, reduceCtorEq, reduceIte]; rfl) fun a ha => ?_
    refine qm ?_
    refine hk_region fun K hK => runs_eval tab_ok ?_
    simp only [ev0, evA, evB, evP, fl, gp, tab, simprocAttr, reduceCtorEq, reduceIte]
    refine fin_run trivial (hK _ ?_) <;> clear hK <;> clear K
    refine qa (qm ?_)
    refine hk_cond rfl (fun hC2 => ?_) (fun hC2 => ?_)
    · (try simp only [nhs] at hC2)
      have hal : a < n := by omega
      refine qh (qa (qm (ql (qm ?_))))
      refine hk_region fun K hK => runs_eval tab_ok ?_
      simp only [ev0, evA, evB, evP, fl, gp, tab, simprocAttr, reduceCtorEq, reduceIte]
      refine fin_run trivial (hK _ ?_) <;> clear hK <;> clear K
      refine qa (qm ?_)
      refine hk_region fun K hK => runs_eval tab_ok ?_
      simp only [ev0, evA, evB, evP, fl, gp, tab, simprocAttr, reduceCtorEq, reduceIte]
      refine fin_run ?_ (hK _ ?_) <;> clear hK <;> clear K
      · (first | exact trivial | omega | (simp only [In64] at *; omega) | (simp [In64] at *; omega) | (simp_all; done) | skip)
      refine qa (ql ?_)
      refine hk_loop (ι := Nat) (fun b => ⟨129, [(1, .p (.int .i64 p)), (2, .ptr 0 0), (4, .ptr 1 0), (5, .ptr 2 0), (7, .ptr 3 0), (8, .p (.int .i64 a)), (25, .p (.int .i64 n)), (26, .p (.int .i64 a)), (30, .p (.int .i64 n)), (31, .p (.int .i64 b))], [.own [.p (.int .i64 n), .p (.list (il m))], .own [.p (.int .i64 0), .p (.int .i64 0), .p (.int .i64 0)], .own [.p (.int .i64 0), .p (.int .i64 0)], .own [.p (.int .i64 p), .mptr 4], .mp .i64 (dOf (eqK n m p ((a * n + b) * n))) (vOf (eqK n m p ((a * n + b) * n)))]⟩) (fun b => b ≤ n) (fun b => n - b) 0 (Nat.zero_le _) [0, 1, 2, 3, 4] (by rw [Nat.add_zero]; simp only [leq, leA, ev0, evA, evB, evP, fl, gp, tab, simprocAttr, reduceCtorEq, reduceIte]) fun b hb => ?_
      refine qm ?_
      refine hk_region fun K hK => runs_eval tab_ok ?_
      simp only [ev0, evA, evB, evP, fl, gp, tab, simprocAttr, reduceCtorEq, reduceIte]
      refine fin_run trivial (hK _ ?_) <;> clear hK <;> clear K
      refine qa (qm ?_)
      refine hk_cond rfl (fun hC3 => ?_) (fun hC3 => ?_)
      · (try simp only [nhs] at hC3)
        have hbl : b < n := by omega
        refine qh (qa (qm (ql (qm ?_))))
        refine hk_region fun K hK => runs_eval tab_ok ?_
        simp only [ev0, evA, evB, evP, fl, gp, tab, simprocAttr, reduceCtorEq, reduceIte]
        refine fin_run trivial (hK _ ?_) <;> clear hK <;> clear K
        refine qa (qm ?_)
        refine hk_region fun K hK => runs_eval tab_ok ?_
        simp only [ev0, evA, evB, evP, fl, gp, tab, simprocAttr, reduceCtorEq, reduceIte]
        refine fin_run ?_ (hK _ ?_) <;> clear hK <;> clear K
        · (first | exact trivial | omega | (simp only [In64] at *; omega) | (simp [In64] at *; omega) | (simp_all; done) | skip)
        refine qa (ql ?_)
        refine hk_loop (ι := Nat) (fun c => ⟨129, [(1, .p (.int .i64 p)), (2, .ptr 0 0), (4, .ptr 1 0), (5, .ptr 2 0), (7, .ptr 3 0), (8, .p (.int .i64 a)), (9, .p (.int .i64 b)), (25, .p (.int .i64 n)), (26, .p (.int .i64 a)), (30, .p (.int .i64 n)), (31, .p (.int .i64 b)), (35, .p (.int .i64 n)), (36, .p (.int .i64 c))], [.own [.p (.int .i64 n), .p (.list (il m))], .own [.p (.int .i64 0), .p (.int .i64 0), .p (.int .i64 0)], .own [.p (.int .i64 0), .p (.int .i64 0)], .own [.p (.int .i64 p), .mptr 4], .mp .i64 (dOf (eqK n m p ((a * n + b) * n + c))) (vOf (eqK n m p ((a * n + b) * n + c)))]⟩) (fun c => c ≤ n) (fun c => n - c) 0 (Nat.zero_le _) [0, 1, 2, 3, 4] (by rw [Nat.add_zero]; simp only [leq, leA, ev0, evA, evB, evP, fl, gp, tab, simprocAttr, reduceCtorEq, reduceIte]) fun c hc => ?_
        refine qm ?_
        refine hk_region fun K hK => runs_eval tab_ok ?_
        simp only [ev0, evA, evB, evP, fl, gp, tab, simprocAttr, reduceCtorEq, reduceIte]
        refine fin_run trivial (hK _ ?_) <;> clear hK <;> clear K
        refine qa (qm ?_)
        refine hk_cond rfl (fun hC4 => ?_) (fun hC4 => ?_)
        · (try simp only [nhs] at hC4)
          have hcl : c < n := by omega
          have hab := T.lt hal hbl
          have hbc := T.lt hbl hcl
          have e1 := at_lt hbl hcl
          have e2 := at_lt hab hcl
          have e3 := at_lt hal hbc
          have e4 := at_lt hal hbl
          have c1 : (b : Int) * (n : Int) = ((b * n : Nat) : Int) := (Int.natCast_mul b n).symm
          have c2 : ((op m n a b : Nat) : Int) * (n : Int) = ((op m n a b * n : Nat) : Int) := (Int.natCast_mul _ n).symm
          have c3 : (a : Int) * (n : Int) = ((a * n : Nat) : Int) := (Int.natCast_mul a n).symm
          obtain ⟨k1, k2, k3⟩ := eqK_at (a := a) hbl hcl
          have hst : ∀ (i : Nat) (d : Int) (u : List Int), u.set i (u.getD i 0 + d) = inc i d u := fun _ _ _ => rfl
          have hsm : ∀ (i : Nat) (u : List Int), u.set i (u.getD i 0 - 1) = inc i (-1) u := fun i u => by unfold inc; rw [Int.sub_eq_add_neg]
          generalize hu0 : (List.replicate (n * n) (0 : Int)) = u0
          have l0 : u0.length = n * n := by rw [← hu0]; simp
          have z0 : ∀ t, t < n * n → u0.getD t 0 = 0 := fun t ht => by rw [← hu0]; simp [ht]
          generalize hu1 : inc (b * n + c) 1 u0 = u1
          have l1' : u1.length = n * n := by rw [← hu1, inc_len, l0]
          have z1 : ∀ t, t < n * n → -1 ≤ u1.getD t 0 ∧ u1.getD t 0 ≤ 1 := fun t ht => by rw [← hu1, inc_get (by omega), z0 t ht]; split <;> omega
          generalize hu2 : inc (op m n a b * n + c) (-1) u1 = u2
          have l2' : u2.length = n * n := by rw [← hu2, inc_len, l1']
          have z2 : ∀ t, t < n * n → -2 ≤ u2.getD t 0 ∧ u2.getD t 0 ≤ 2 := fun t ht => by have := z1 t ht; rw [← hu2, inc_get (by omega)]; split <;> omega
          generalize hu3 : inc (a * n + op m n b c) 1 u2 = u3
          have l3' : u3.length = n * n := by rw [← hu3, inc_len, l2']
          have z3 : ∀ t, t < n * n → -3 ≤ u3.getD t 0 ∧ u3.getD t 0 ≤ 3 := fun t ht => by have := z2 t ht; rw [← hu3, inc_get (by omega)]; split <;> omega
          have hu4 : inc (a * n + b) (-1) u3 = eqR n m a b c := by rw [← hu3, ← hu2, ← hu1, ← hu0]; rfl
          have y0 := z0 _ e1
          have y1 := z1 _ e2
          have y2 := z2 _ e3
          have y3 := z3 _ e4
          refine qh (qa (qm (ql (qm ?_))))
          refine hk_region fun K hK => runs_eval tab_ok ?_
          simp only [ev0, evA, evB, evP, fl, gp, tab, simprocAttr, reduceCtorEq, reduceIte]
          refine fin_run trivial (hK _ ?_) <;> clear hK <;> clear K
          refine qa (qm ?_)
          refine hk_region fun K hK => runs_eval tab_ok ?_
          simp only [ev0, evA, evB, evP, fl, gp, tab, simprocAttr, reduceCtorEq, reduceIte, c0, ol_replicate, hu0]
          refine fin_run ?_ (hK _ ?_) <;> clear hK <;> clear K
          · (first | exact trivial | omega | (simp only [In64] at *; omega) | (simp [In64] at *; omega) | (simp_all; done) | skip)
          refine qa (qm ?_)
          refine hk_region fun K hK => runs_eval tab_ok ?_
          simp only [ev0, evA, evB, evP, fl, gp, tab, simprocAttr, reduceCtorEq, reduceIte, at_nat, ol_get (show b * n + c < u0.length by omega), ol_set, hst, hu1]
          refine fin_run ?_ (hK _ ?_) <;> clear hK <;> clear K
          · rw [c1]; simp only [In64]; omega
          refine qa (qm ?_)
          refine hk_draw mixed (by kernel_rfl) fun K hK => runs_eval tab_ok ?_
          simp only [ev0, evA, evB, evP, fl, gp, tab, simprocAttr, reduceCtorEq, reduceIte, at_nat, ol_get (show op m n a b * n + c < u1.length by omega), ol_set, hsm, hu2]
          refine fin_stop trivial (runs_call (of_c T hal hbl) rfl rfl rfl (by simp only [dstOk, Nat.reduceLT]) (by repeat (first | exact trivial | constructor)) (runs_eval tab_ok ?_))
          simp only [ev0, evA, evB, evP, fl, gp, tab, simprocAttr, reduceCtorEq, reduceIte, at_nat, ol_get (show op m n a b * n + c < u1.length by omega), ol_set, hsm, hu2]
          refine fin_run ?_ (hK _ ?_) <;> clear hK <;> clear K
          · rw [c2]; simp only [In64]; omega
          refine qa (qm ?_)
          refine hk_draw mixed (by kernel_rfl) fun K hK => runs_eval tab_ok ?_
          simp only [ev0, evA, evB, evP, fl, gp, tab, simprocAttr, reduceCtorEq, reduceIte, at_nat, ol_get (show a * n + op m n b c < u2.length by omega), ol_set, hst, hu3]
          refine fin_stop ?_ (runs_call (of_c T hbl hcl) rfl rfl rfl (by simp only [dstOk, Nat.reduceLT]) (by repeat (first | exact trivial | constructor)) (runs_eval tab_ok ?_))
          · rw [c3]; simp only [In64]; omega
          simp only [ev0, evA, evB, evP, fl, gp, tab, simprocAttr, reduceCtorEq, reduceIte, at_nat, ol_get (show a * n + op m n b c < u2.length by omega), ol_set, hst, hu3]
          refine fin_run ?_ (hK _ ?_) <;> clear hK <;> clear K
          · simp only [In64]; omega
          refine qa (qm ?_)
          refine hk_region fun K hK => runs_eval tab_ok ?_
          simp only [ev0, evA, evB, evP, fl, gp, tab, simprocAttr, reduceCtorEq, reduceIte, at_nat, ol_get (show a * n + b < u3.length by omega), ol_set, hsm, hu4]
          refine fin_run ?_ (hK _ ?_) <;> clear hK <;> clear K
          · rw [c3]; simp only [In64]; omega
          refine qa ?_
          refine hk_seal 11 5 (w := eqR n m a b c) (by rw [eqR_len]; rfl) rfl ?_
          refine hk_region fun K hK => runs_eval tab_ok ?_
          simp only [ev0, evA, evB, evP, fl, gp, tab, simprocAttr, reduceCtorEq, reduceIte]
          refine fin_stop ?_ (runs_callM [3, 4] (add_c hp hsq1 (by omega) (eqK n m p ((a * n + b) * n + c)) (eqK_ech hp m _) (eqR n m a b c) (eqR_len n m a b c) (fun t ht => by rw [eqR_get ht]; split <;> split <;> split <;> split <;> omega)) rfl rfl ?_ (by simp only [leA, ev0, evA, evB, evP, fl, gp, tab, simprocAttr, reduceCtorEq, reduceIte]; first | trivial | (simp only [ll_takeL]; first | trivial | (repeat constructor; done)) | (repeat constructor)) (by decide) (by first | rfl | (simp only [List.length_cons, List.length_nil, List.length_append]; decide)) (by first | rfl | (simp only [scM, opl_sc, List.all_cons, List.all_nil, List.length_cons, List.length_nil]; first | rfl | decide) | (simp [scM, scA, sc1, mpKeep, notAnc]; done)) (by simp only [dstOk, Nat.reduceLT]) (runs_eval tab_ok ?_))
          · (first | exact trivial | omega | (simp only [In64] at *; omega) | (simp [In64] at *; omega) | (simp_all; done) | skip)
          · (simp only [argsM, argM1, peekG, peekS, scA, sc1, ren, ren1, List.map_cons, List.map_nil, List.append_nil, List.cons_append, List.nil_append, enA, ev0, evA, evB, evP, fl, gp, tab, simprocAttr, reduceCtorEq, reduceIte]; try trivial)
          simp only [putM, hset, List.range', Blk.ren, ren, ren1, List.map_cons, List.map_nil, List.cons_append, List.nil_append, List.append_nil, List.length_cons, List.length_nil, ev0, evA, evB, evP, fl, gp, tab, simprocAttr, reduceCtorEq, reduceIte]
          refine fin_run trivial (hK _ ?_) <;> clear hK <;> clear K
          refine qd (qa ?_)
          refine hk_region fun K hK => runs_eval tab_ok ?_
          simp only [ev0, evA, evB, evP, fl, gp, tab, simprocAttr, reduceCtorEq, reduceIte]
          refine fin_run ?_ (hK _ ?_) <;> clear hK <;> clear K
          · (first | exact trivial | omega | (simp only [In64] at *; omega) | (simp [In64] at *; omega) | (simp_all; done) | skip)
          refine qa ?_
          refine ⟨c + 1, [0, 1, 2, 3, 4], by omega, by omega, ?_⟩
          have hK : eqK n m p ((a * n + b) * n + (c + 1)) = (addL p (eqK n m p ((a * n + b) * n + c)) (eqR n m a b c)).1 := by
            show eqK n m p ((a * n + b) * n + c + 1) = _
            rw [eqK, k1, k2, k3]
          rw [hK]
          simp only [leq, leA, ev0, evA, evB, evP, fl, gp, tab, simprocAttr, reduceCtorEq, reduceIte] <;> first | trivial | omega
        · (try simp only [nhs] at hC4)
          refine qj (qc (qc (qf (qd (qa ?_)))))
          refine hk_region fun K hK => runs_eval tab_ok ?_
          simp only [ev0, evA, evB, evP, fl, gp, tab, simprocAttr, reduceCtorEq, reduceIte]
          refine fin_run ?_ (hK _ ?_) <;> clear hK <;> clear K
          · (first | exact trivial | omega | (simp only [In64] at *; omega) | (simp [In64] at *; omega) | (simp_all; done) | skip)
          refine qa ?_
          have hcn : c = n := by omega
          refine ⟨b + 1, [0, 1, 2, 3, 4], by omega, by omega, ?_⟩
          rw [show (a * n + (b + 1)) * n = (a * n + b) * n + c by rw [hcn, ← Nat.add_assoc, Nat.add_mul _ 1, Nat.one_mul]]
          simp only [leq, leA, ev0, evA, evB, evP, fl, gp, tab, simprocAttr, reduceCtorEq, reduceIte] <;> first | trivial | omega
      · (try simp only [nhs] at hC3)
        refine qj (qc (qc (qf (qd (qa ?_)))))
        refine hk_region fun K hK => runs_eval tab_ok ?_
        simp only [ev0, evA, evB, evP, fl, gp, tab, simprocAttr, reduceCtorEq, reduceIte]
        refine fin_run ?_ (hK _ ?_) <;> clear hK <;> clear K
        · (first | exact trivial | omega | (simp only [In64] at *; omega) | (simp [In64] at *; omega) | (simp_all; done) | skip)
        refine qa ?_
        have hbn : b = n := by omega
        refine ⟨a + 1, [0, 1, 2, 3, 4], by omega, by omega, ?_⟩
        rw [show (a + 1) * n * n = (a * n + b) * n by rw [hbn, Nat.add_mul _ 1, Nat.one_mul]]
        simp only [leq, leA, ev0, evA, evB, evP, fl, gp, tab, simprocAttr, reduceCtorEq, reduceIte] <;> first | trivial | omega
    · (try simp only [nhs] at hC2)
      refine qj (qc (qc (qf (qa (qm ?_)))))
      have han : a = n := by omega
      subst han
      have hE := E1.count
      have hE2 := E2.count
      refine hk_draw2 mixed fun K hK => runs2_eval tab_ok ?_
      simp only [evD, ev0, evA, evB, evP, fl, gp, tab, simprocAttr, reduceCtorEq, reduceIte, c0, hE]
      refine fin2_stop ?_ (runs2_mapLen tab_ok rfl rfl rfl rfl rfl (by simp only [dstOk, Nat.reduceLT]) (runs2_eval tab_ok ?_))
      · (first | exact trivial | omega | (simp only [In64] at *; omega) | (simp [In64] at *; omega) | (simp_all; done) | skip)
      simp only [evD, ev0, evA, evB, evP, fl, gp, tab, simprocAttr, reduceCtorEq, reduceIte, c0, hE]
      refine fin2_run ?_ (hK _ _ (by first | kernel_rfl | rfl) ?_) <;> clear hK <;> clear K
      · (first | exact trivial | omega | (simp only [In64] at *; omega) | (simp [In64] at *; omega) | (simp_all; done) | skip)
      refine qa (qm ?_)
      refine hk_region fun K hK => runs_eval tab_ok ?_
      simp only [ev0, evA, evB, evP, fl, gp, tab, simprocAttr, reduceCtorEq, reduceIte, hE2]
      refine fin_stop ?_ (runs_callM [] (xspan_c h hn hp) rfl rfl ?_ (by simp only [leA, ev0, evA, evB, evP, fl, gp, tab, simprocAttr, reduceCtorEq, reduceIte]; first | trivial | (simp only [ll_takeL]; first | trivial | (repeat constructor; done)) | (repeat constructor)) (by decide) (by first | rfl | (simp only [List.length_cons, List.length_nil, List.length_append]; decide)) (by first | rfl | (simp only [scM, opl_sc, List.all_cons, List.all_nil, List.length_cons, List.length_nil]; first | rfl | decide) | (simp [scM, scA, sc1, mpKeep, notAnc]; done)) (by simp only [dstOk, Nat.reduceLT]) (runs_eval tab_ok ?_))
      · (first | exact trivial | omega | (simp only [In64] at *; omega) | (simp [In64] at *; omega) | (simp_all; done) | skip)
      · (simp only [argsM, argM1, peekG, peekS, scA, sc1, ren, ren1, List.map_cons, List.map_nil, List.append_nil, List.cons_append, List.nil_append, enA, ev0, evA, evB, evP, fl, gp, tab, simprocAttr, reduceCtorEq, reduceIte]; try trivial)
      simp only [putM, hset, List.range', Blk.ren, ren, ren1, List.map_cons, List.map_nil, List.cons_append, List.nil_append, List.append_nil, List.length_cons, List.length_nil, ev0, evA, evB, evP, fl, gp, tab, simprocAttr, reduceCtorEq, reduceIte, hE2]
      refine fin_stop ?_ (runs_mapLen tab_ok rfl rfl rfl rfl rfl (by simp only [dstOk, Nat.reduceLT]) (runs_eval tab_ok ?_))
      · (first | exact trivial | omega | (simp only [In64] at *; omega) | (simp [In64] at *; omega) | (simp_all; done) | skip)
      simp only [ev0, evA, evB, evP, fl, gp, tab, simprocAttr, reduceCtorEq, reduceIte, hE2]
      refine fin_run ?_ (hK _ ?_) <;> clear hK <;> clear K
      · (first | exact trivial | omega | (simp only [In64] at *; omega) | (simp [In64] at *; omega) | (simp_all; done) | skip)
      refine qa (qm ?_)
      refine hk_region fun K hK => runs_eval tab_ok ?_
      simp only [ev0, evA, evB, evP, fl, gp, tab, simprocAttr, reduceCtorEq, reduceIte]
      refine fin_run ?_ (hK _ ?_) <;> clear hK <;> clear K
      · (first | exact trivial | omega | (simp only [In64] at *; omega) | (simp [In64] at *; omega) | (simp_all; done) | skip)
      refine qa (qk ?_)
      simp only [Tryd.results92, enA, ev0, evA, evB, evP, fl, gp, tab, simprocAttr, reduceCtorEq, reduceIte]
      all_goals (simp [szB, szZ])

theorem g_ring2 : ∃ e, GT 2 [0, 1, 1, 0] 2 e := by
  obtain ⟨n, e, hg, _⟩ := gf_ok (N := 2) (m := [0, 1, 1, 0]) (by decide)
  have : n = 2 := by have := hg.1; omega
  subst this
  exact ⟨e, hg⟩

theorem begun_x : FnC Tryd.prog 29 [] (.bool true) := by
  have hr : FnC Tryd.prog 93 [.int .i64 2] (gp 2 [0, 1, 1, 0]) := ringOf_c 2 (by decide) (by decide)
  have hs : FnC Tryd.prog 92 [gp 2 [0, 1, 1, 0], .int .i64 2] (.tup [.agg [.int .i64 1, .int .i64 2, .int .i64 1], fl (0, 0)]) := by
    obtain ⟨_, hg⟩ := g_ring2
    have := sizes_ok (p := 2) hg (by decide) (by decide)
    have e1 : szB 2 [0, 1, 1, 0] 2 = 1 := by decide
    have e2 : szZ 2 [0, 1, 1, 0] 2 = 2 := by decide
    rw [e1, e2] at this
    exact this
  refine fnc_of tab_ok Tryd.func29 rfl (by kernel_rfl) (by rw [Tryd.ntmps29]; exact Nat.le_add_left 0 _) ?_; rw [Tryd.ntmps29]
  refine qm ?_
  refine hk_region fun K hK => runs_eval tab_ok ?_
  simp only [ev0, evA, evB, evP, fl, gp, tab, simprocAttr, reduceCtorEq, reduceIte]
  refine fin_run trivial (hK _ ?_) <;> clear hK <;> clear K
  refine qa (qm ?_)
  refine hk_region fun K hK => runs_eval tab_ok ?_
  simp only [ev0, evA, evB, evP, fl, gp, tab, simprocAttr, reduceCtorEq, reduceIte]
  refine fin_stop trivial (runs_call (hr) rfl rfl rfl (by simp only [dstOk, Nat.reduceLT]) (by repeat (first | exact trivial | constructor)) (runs_eval tab_ok ?_))
  simp only [ev0, evA, evB, evP, fl, gp, tab, simprocAttr, reduceCtorEq, reduceIte]
  refine fin_stop trivial (runs_call (hs) rfl rfl rfl (by simp only [dstOk, Nat.reduceLT]) (by repeat (first | exact trivial | constructor)) (runs_eval tab_ok ?_))
  simp only [ev0, evA, evB, evP, fl, gp, tab, simprocAttr, reduceCtorEq, reduceIte]
  refine fin_run ?_ (hK _ ?_) <;> clear hK <;> clear K
  · (first | exact trivial | omega | (simp only [In64] at *; omega) | (simp [In64] at *; omega) | (simp_all; done) | skip)
  refine qa (qm ?_)
  refine hk_region fun K hK => runs_eval tab_ok ?_
  simp only [ev0, evA, evB, evP, fl, gp, tab, simprocAttr, reduceCtorEq, reduceIte]
  refine fin_stop ?_ (runs_op (arrEq3_does tab_ok rfl rfl rfl rfl rfl rfl rfl rfl (by kernel_rfl)) rfl (by simp only [dstOk, Nat.reduceLT]) (runs_eval tab_ok ?_))
  · (first | exact trivial | omega | (simp only [In64] at *; omega) | (simp [In64] at *; omega) | (simp_all; done) | skip)
  simp only [ev0, evA, evB, evP, fl, gp, tab, simprocAttr, reduceCtorEq, reduceIte]
  refine fin_run ?_ (hK _ ?_) <;> clear hK <;> clear K
  · (first | exact trivial | omega | (simp only [In64] at *; omega) | (simp [In64] at *; omega) | (simp_all; done) | skip)
  refine qa (qk ?_)
  simp only [Tryd.results29, enA, ev0, evA, evB, evP, fl, gp, tab, simprocAttr, reduceCtorEq, reduceIte]
  all_goals ((first | exact rfl | exact ⟨rfl, rfl⟩ | exact ⟨rfl, rfl, rfl⟩ | exact ⟨trivial, rfl⟩ | exact ⟨Nat.le_refl _, rfl⟩ | trivial | (simp; done)))

end Go.Proofs.YtjbfkdaodfdpcaaDoor

/-
  Extensions are groups. Plain law. Conditions: none.
-/
set_option linter.all false
namespace Go.Proofs.YtjbfkdaodfdpcaaDoor
open Go.Pv

def exG (g : Nat → Nat → Nat) (p : Nat) (φ : Nat → Nat → Nat) (i k : Nat) : Nat := g (i / p) (k / p) * p + (i % p + k % p + φ (i / p) (k / p)) % p

section
variable {n e p : Nat} {g φ : Nat → Nat → Nat}

theorem exG_dm {i k : Nat} (hp : 0 < p) : exG g p φ i k / p = g (i / p) (k / p) ∧ exG g p φ i k % p = (i % p + k % p + φ (i / p) (k / p)) % p := dm_at (Nat.mod_lt _ hp)

theorem exG_grp (G : Grp n g e) (hp : 0 < p) (hφ : ∀ a b, a < n → b < n → φ a b < p) (hc : ∀ a b c, a < n → b < n → c < n → (φ b c + φ a (g b c)) % p = (φ (g a b) c + φ a b) % p) :
    Grp (n * p) (exG g p φ) (e * p + (p - φ e e) % p) := by
  have hdiv : ∀ {i}, i < n * p → i / p < n := fun hi => (Nat.div_lt_iff_lt_mul hp).2 hi
  have hcl : ∀ a b, a < n * p → b < n * p → exG g p φ a b < n * p := by
    intro a b ha hb
    have h1 := G.cl _ _ (hdiv ha) (hdiv hb)
    have h2 : (a % p + b % p + φ (a / p) (b / p)) % p < p := Nat.mod_lt _ hp
    have h3 : (g (a / p) (b / p) + 1) * p ≤ n * p := Nat.mul_le_mul_right _ h1
    rw [Nat.add_mul, Nat.one_mul] at h3
    unfold exG
    omega
  have hee := hφ e e G.el G.el
  -- the cocycle at the one
  have same : ∀ {x y : Nat}, x < p → y < p → ∀ {z : Nat}, (x + z) % p = (y + z) % p → x = y := by
    intro x y hx hy z h
    have h1 : (x + z + (p - z % p)) % p = (y + z + (p - z % p)) % p := by rw [Nat.add_mod, h, ← Nat.add_mod]
    have hz := Nat.mod_lt z hp
    have e1 : z + (p - z % p) = p * (z / p) + p := by
      have := Nat.div_add_mod z p
      omega
    rw [Nat.add_assoc, Nat.add_assoc, e1, show x + (p * (z / p) + p) = x + p + p * (z / p) by omega, show y + (p * (z / p) + p) = y + p + p * (z / p) by omega, Nat.add_mul_mod_self_left, Nat.add_mul_mod_self_left, Nat.add_mod_right, Nat.add_mod_right, Nat.mod_eq_of_lt hx, Nat.mod_eq_of_lt hy] at h1
    exact h1
  have hl : ∀ c, c < n → φ e c = φ e e := by
    intro c hcn
    have h := hc e e c G.el G.el hcn
    rw [G.one_l c hcn, G.one_l e G.el, Nat.add_comm (φ e c) (φ e e)] at h
    exact same (hφ e c G.el hcn) hee (by rw [← h, Nat.add_comm]) |>.symm ▸ rfl
  have hr : ∀ a, a < n → φ a e = φ e e := by
    intro a han
    have h := hc a e e han G.el G.el
    rw [G.one_l e G.el, G.one_r a han] at h
    exact (same hee (hφ a e han G.el) h).symm
  have hx : ∀ y, y < p → ((p - φ e e) % p + y + φ e e) % p = y := by
    intro y hy
    by_cases h0 : φ e e = 0
    · rw [h0, Nat.sub_zero, Nat.mod_self, Nat.zero_add, Nat.add_zero, Nat.mod_eq_of_lt hy]
    · rw [Nat.mod_eq_of_lt (show p - φ e e < p by omega), show p - φ e e + y + φ e e = y + p by omega, Nat.add_mod_right, Nat.mod_eq_of_lt hy]
  have hεl : (p - φ e e) % p < p := Nat.mod_lt _ hp
  have hε : e * p + (p - φ e e) % p < n * p := by
    have h3 : (e + 1) * p ≤ n * p := Nat.mul_le_mul_right _ G.el
    rw [Nat.add_mul, Nat.one_mul] at h3
    omega
  obtain ⟨d1, d2⟩ := dm_at (a := e) hεl
  have hol : ∀ a, a < n * p → exG g p φ (e * p + (p - φ e e) % p) a = a := by
    intro a ha
    have h1 := hdiv ha
    have h2 := Nat.mod_lt a hp
    unfold exG
    rw [d1, d2, G.one_l _ h1, hl _ h1, hx _ h2, Nat.mul_comm]
    exact Nat.div_add_mod a p
  have hor : ∀ a, a < n * p → exG g p φ a (e * p + (p - φ e e) % p) = a := by
    intro a ha
    have h1 := hdiv ha
    have h2 := Nat.mod_lt a hp
    unfold exG
    rw [d1, d2, G.one_r _ h1, hr _ h1, Nat.add_comm (a % p), hx _ h2, Nat.mul_comm]
    exact Nat.div_add_mod a p
  have hass : ∀ a b c, a < n * p → b < n * p → c < n * p → exG g p φ (exG g p φ a b) c = exG g p φ a (exG g p φ b c) := by
    intro a b c ha hb hcn
    have h1 := hdiv ha
    have h2 := hdiv hb
    have h3 := hdiv hcn
    obtain ⟨e1, e2⟩ := exG_dm (g := g) (φ := φ) (i := a) (k := b) hp
    obtain ⟨e3, e4⟩ := exG_dm (g := g) (φ := φ) (i := b) (k := c) hp
    rw [show exG g p φ (exG g p φ a b) c = g (exG g p φ a b / p) (c / p) * p + (exG g p φ a b % p + c % p + φ (exG g p φ a b / p) (c / p)) % p from rfl,
      show exG g p φ a (exG g p φ b c) = g (a / p) (exG g p φ b c / p) * p + (a % p + exG g p φ b c % p + φ (a / p) (exG g p φ b c / p)) % p from rfl, e1, e2, e3, e4, G.assoc _ _ _ h1 h2 h3]
    congr 1
    have hcc := hc _ _ _ h1 h2 h3
    generalize φ (a / p) (b / p) = f1 at *
    generalize φ (g (a / p) (b / p)) (c / p) = f2 at *
    generalize φ (b / p) (c / p) = f3 at *
    generalize φ (a / p) (g (b / p) (c / p)) = f4 at *
    generalize a % p = x
    generalize b % p = y
    generalize c % p = z
    rw [Nat.add_assoc ((x + y + f1) % p), Nat.mod_add_mod, show x + (y + z + f3) % p + f4 = x + f4 + (y + z + f3) % p by omega, Nat.add_mod_mod, show x + y + f1 + (z + f2) = x + y + z + (f2 + f1) by omega, show x + f4 + (y + z + f3) = x + y + z + (f3 + f4) by omega, Nat.add_mod, ← hcc, ← Nat.add_mod]
  have iv : ∀ a, a < n * p → ∃ b, b < n * p ∧ exG g p φ a b = e * p + (p - φ e e) % p := by
    intro a ha
    have h1 := hdiv ha
    obtain ⟨b, hb, hab, _⟩ := G.inv _ h1
    have hf := hφ _ _ h1 hb
    have hxa := Nat.mod_lt a hp
    have hy : ((p - φ e e) + (p - a % p) + (p - φ (a / p) b)) % p < p := Nat.mod_lt _ hp
    refine ⟨b * p + ((p - φ e e) + (p - a % p) + (p - φ (a / p) b)) % p, ?_, ?_⟩
    · have h3 : (b + 1) * p ≤ n * p := Nat.mul_le_mul_right _ hb
      rw [Nat.add_mul, Nat.one_mul] at h3
      omega
    · obtain ⟨q1, q2⟩ := dm_at (a := b) hy
      unfold exG
      rw [q1, q2, hab]
      congr 1
      rw [Nat.add_right_comm, Nat.add_mod_mod, show a % p + φ (a / p) b + ((p - φ e e) + (p - a % p) + (p - φ (a / p) b)) = (p - φ e e) + p + p by omega, Nat.add_mod_right, Nat.add_mod_right]
  refine ⟨Nat.mul_pos G.pos hp, hcl, hε, hol, hor, hass, fun a ha => ?_⟩
  obtain ⟨b, hb, hab⟩ := iv a ha
  exact ⟨b, hb, hab, right_inv hcl hε hol hor hass ha hb hab⟩

end

theorem ex_tab {n e p : Nat} {m : List Int} (h : GT n m n e) (hp : pr p) {f : List Int} (hf : (cf n m p f).1 = 0) (hb : n * p ≤ 60) :
    ∃ e', GT (n * p : Nat) (tbl (fun i k => ((exO n m p f i k : Nat) : Int)) (n * p)) (n * p) e' ∧ ∀ i k, i < n * p → k < n * p → op (tbl (fun i k => ((exO n m p f i k : Nat) : Int)) (n * p)) (n * p) i k = exO n m p f i k := by
  have hp2 := hp.le
  have hp0 : 0 < p := by omega
  obtain ⟨f1, f2, f3, _⟩ := cf_0 hf
  have hF : ∀ {a b}, a < n → b < n → 0 ≤ F2 n f a b ∧ F2 n f a b < p := fun ha hb => f2 _ (by have := at_lt ha hb; omega)
  have G := exG_grp (p := p) (φ := fun a b => (F2 n f a b).toNat) h.2.2 hp0 (fun a b ha hb => by have := hF ha hb; omega) fun a b c ha hb hc => by
    have hab := h.2.1.lt ha hb
    have hbc := h.2.1.lt hb hc
    have h1 := f3 a ha b hb c hc
    unfold coc at h1
    have a1 := hF hb hc
    have a2 := hF ha hbc
    have a3 := hF hab hc
    have a4 := hF ha hb
    obtain ⟨x1, hx1⟩ := Int.eq_ofNat_of_zero_le a1.1
    obtain ⟨x2, hx2⟩ := Int.eq_ofNat_of_zero_le a2.1
    obtain ⟨x3, hx3⟩ := Int.eq_ofNat_of_zero_le a3.1
    obtain ⟨x4, hx4⟩ := Int.eq_ofNat_of_zero_le a4.1
    rw [hx1, hx2, hx3, hx4] at h1 ⊢
    simp only [Int.toNat_natCast]
    exact_mod_cast h1
  have hop : ∀ i k, i < n * p → k < n * p → op (tbl (fun i k => ((exO n m p f i k : Nat) : Int)) (n * p)) (n * p) i k = exO n m p f i k := fun i k hi hk => by
    unfold op; rw [tbl_get _ hi hk]; simp
  have hex : ∀ i k, exO n m p f i k = exG (op m n) p (fun a b => (F2 n f a b).toNat) i k := fun _ _ => rfl
  have hlt : ∀ i k, i < n * p → k < n * p → exO n m p f i k < n * p := fun i k hi hk => G.cl i k hi hk
  refine ⟨_, ⟨rfl, ⟨G.pos, hb, tbl_len _ _, fun t ht => ?_⟩, ⟨G.pos, fun a b ha hb => ?_, G.el, fun a ha => ?_, fun a ha => ?_, fun a b c ha hb hc => ?_, fun a ha => ?_⟩⟩, hop⟩
  · have h1 : t / (n * p) < n * p := (Nat.div_lt_iff_lt_mul G.pos).2 ht
    have h2 : t % (n * p) < n * p := Nat.mod_lt _ G.pos
    have := tbl_get (fun i k => ((exO n m p f i k : Nat) : Int)) h1 h2
    rw [show t / (n * p) * (n * p) + t % (n * p) = t by rw [Nat.mul_comm]; exact Nat.div_add_mod t (n * p)] at this
    rw [this]
    have := hlt _ _ h1 h2
    omega
  · rw [hop a b ha hb]; exact hlt a b ha hb
  · rw [hop _ _ G.el ha]; exact G.one_l a ha
  · rw [hop _ _ ha G.el]; exact G.one_r a ha
  · rw [hop a b ha hb, hop b c hb hc, hop _ c (hlt a b ha hb) hc, hop a _ ha (hlt b c hb hc)]; exact G.assoc a b c ha hb hc
  · obtain ⟨b, hb, h1, h2⟩ := G.inv a ha
    exact ⟨b, hb, by rw [hop a b ha hb]; exact h1, by rw [hop b a hb ha]; exact h2⟩

end Go.Proofs.YtjbfkdaodfdpcaaDoor

/-
  A row is made where the order is drawn. Conditions: none; a library text.
-/
set_option linter.all false
namespace Go.Pv
open Go.RowKit

theorem ol_opl (w : List Int) : ol w = opl (il w) := rfl

theorem runs2_makeSlice {P : Program} {T : TypeId → Option TI} {s : St} (hT : ∀ t ti, T t = some ti → tiOf P t = some ti) {all : Array Oper} {rest : List Oper} {K : St → List I2 → Prop} {acc : List I2} {dst : Option Tmp} {ty : TypeId} {pos : String} {aft : Array Edge} {gd : Option (Nat × Bool)} {t : TypeId} {x y : Operand}
    {ti te : TI} {e : TypeId} {z : Value} {k1 k2 : IntKind} {N : Nat} (ht : T t = some ti) (hk : ti.kind = .slice e) (hte : T e = some te) (hz : te.zero = [z]) (hcv : cv z = .p (.int .i64 0)) (hsz : te.size = 1) (hx : s.ev x = .p (.int k1 (N : Int))) (hy : s.ev y = .p (.int k2 (N : Int)))
    (hg : guardA all s { dst := dst, op := .makeSlice t x y, type := ty, pos := pos, after := aft, guard := gd } = some true) (hd : dstOk s dst) (hb : (N : Int) * te.bytes ≤ 140737488355328 ∧ (N : Int) ≤ 9223372036854775807)
    (h : Runs2 P all rest K (({ s with H := s.H ++ [.own (ol (List.replicate N 0))] } : St).put dst (.sl s.H.length 0 N)) (acc ++ [⟨.nw s.H.length, .sl s.H.length 0 N, .own (ol (List.replicate N 0)), true⟩])) :
    Runs2 P all ({ dst := dst, op := .makeSlice t x y, type := ty, pos := pos, after := aft, guard := gd } :: rest) K s acc := by
  obtain ⟨s', xs, hr, hK⟩ := h
  have pure : ∀ (q : Nat) (hq : q < (ol (List.replicate N 0)).length), ∃ v, (ol (List.replicate N (0 : Int)))[q] = .p v := fun q hq => ⟨(il (List.replicate N (0 : Int)))[q]'(by simpa [ol] using hq), by simp [ol]⟩
  refine ⟨s', ⟨.nw s.H.length, .sl s.H.length 0 N, .own (ol (List.replicate N 0)), true⟩ :: xs, .op hg (dstOk_spec hd) ⟨rfl, ?_⟩ (fun _ c hc q hq κ => by
    cases hc
    obtain ⟨v, e⟩ := pure q hq
    rw [e]
    exact .p _) hr, by rw [List.append_assoc] at hK; exact hK⟩
  intro s2 hn ha hdd n1 n2 n3
  have hx2 : s2.ev x = .p (.int k1 (N : Int)) := by rw [← hx]; exact ha x (by simp [Op.operands])
  have hy2 : s2.ev y = .p (.int k2 (N : Int)) := by rw [← hy]; exact ha y (by simp [Op.operands])
  have hm : makeSliceA T ti s2.H (s2.ev x) (s2.ev y) = some ⟨te.size = 1 ∧ 0 ≤ (N : Int) ∧ (N : Int) ≤ (N : Int) ∧ (N : Int) * te.bytes ≤ 140737488355328 ∧ (N : Int) ≤ 9223372036854775807, .sl s2.H.length 0 N, s2.H ++ [.own (ol (List.replicate N 0))]⟩ := by
    rw [hx2, hy2]
    simp only [makeSliceA, hk, hte, hz, hcv, Int.toNat_natCast, ol_replicate]
  refine Does.wp fun C m a w R => ?_
  obtain ⟨v, w', m', hyi, R', hv⟩ := makeSliceA_does hT R (o := { dst := dst, op := .makeSlice t x y, type := ty, pos := pos, after := aft, guard := gd }) rfl ht hm ⟨hsz, by omega, Int.le_refl _, hb⟩
  obtain ⟨g1, _, g2⟩ := Rel.move R (b := .own (ol (List.replicate N 0))) R' hdd n3 (fun _ _ h => by cases h) n1 n2 fun c hc i hi => by
    cases hc
    obtain ⟨v, e⟩ := pure i hi
    rw [e]
    exact ⟨.p _, .p _⟩
  exact ⟨v, w', _, hyi, g1, g2 _ _ v hv⟩

end Go.Pv
