/-
  Walks: prod.Semi. Conditions: none.
-/
import Derived.Test.YtdibogabmbnmnaaH5
set_option linter.all false
namespace Go.Proofs.Ytdibogabmbnmnaa
open Go.Pv

theorem prodFlt_c (c a : Int) : FnC Try.prog 20 [.int .i64 c, .int .i64 a] (fl (c, a)) := by
  refine fnc_of tab_ok Try.func20 rfl (by kernel_rfl) (by rw [Try.ntmps20]; exact Nat.le_add_left 2 _) ?_; rw [Try.ntmps20]
  refine qm ?_
  refine hk_region fun K hK => runs_eval tab_ok ?_
  simp only [ev0, evA, evB, evP, fl, gp, tab, simprocAttr, reduceCtorEq, reduceIte]
  refine fin_run ?_ (hK _ ?_) <;> clear hK <;> clear K
  · (first | exact trivial | omega | (simp only [In64] at *; omega) | (simp [In64] at *; omega) | (simp_all; done) | skip)
  refine qa (qm ?_)
  refine hk_region fun K hK => runs_eval tab_ok ?_
  simp only [ev0, evA, evB, evP, fl, gp, tab, simprocAttr, reduceCtorEq, reduceIte]
  refine fin_run ?_ (hK _ ?_) <;> clear hK <;> clear K
  · (first | exact trivial | omega | (simp only [In64] at *; omega) | (simp [In64] at *; omega) | (simp_all; done) | skip)
  refine qa (qk ?_)
  simp only [Try.results20, enA, ev0, evA, evB, evP, fl, gp, tab, simprocAttr, reduceCtorEq, reduceIte]
  all_goals (rfl)

/-- The group that acts on a group makes. -/
def sg (n n' : Nat) (m m' : List Int) (ls : List (List Int)) : List Int := tbl (fun a b => (smi n' (op m n) (op m' n') (alp ls) a b : Nat)) (n * n')
def sgr (N : Int) (m : List Int) (N' : Int) (m' : List Int) (ls : List (List Int)) : PV := if (psf N m N' m' ls).1 = 0 then gp (N.toNat * N'.toNat : Nat) (sg N.toNat N'.toNat m m' ls) else gp 0 []

def hits (l : List Int) (k i : Nat) : Bool := decide (((i : Nat) : Int) ∈ l.take k)
def sgm (n n' : Nat) (m m' : List Int) (ls : List (List Int)) (a b : Nat) : Int := (smi n' (op m n) (op m' n') (alp ls) a b : Nat)

theorem hbl_new (n : Nat) : List.replicate n (AV.p (.bool false)) = opl (hbl n fun _ => false) := by
  refine List.ext_getElem (by simp [opl, hbl]) fun i h1 h2 => ?_
  simp [opl, hbl]
theorem hbl_set (n : Nat) (g : Nat → Bool) (v : Nat) : (opl (hbl n g)).set v (AV.p (.bool true)) = opl (hbl n fun i => decide (i = v) || g i) := by
  refine List.ext_getElem (by simp [opl, hbl]) fun i h1 h2 => ?_
  simp only [opl, hbl, List.getElem_set, List.getElem_map, List.getElem_range]
  by_cases h : v = i
  · subst h; simp
  · rw [if_neg h]; simp [Ne.symm h]
theorem opl_hblen (n : Nat) (g : Nat → Bool) : (opl (hbl n g)).length = n := by simp [opl, hbl]
theorem hits_zero (l : List Int) (i : Nat) : hits l 0 i = false := by simp [hits]
theorem hits_succ {l : List Int} {k v : Nat} (hk : k < l.length) (hv : l.getD k 0 = ((v : Nat) : Int)) (i : Nat) : hits l (k + 1) i = (decide (i = v) || hits l k i) := by
  unfold hits
  have e : l[k] = ((v : Nat) : Int) := by rw [← hv]; simp [List.getD, List.getElem?_eq_getElem hk]
  rw [List.take_succ_eq_append_getElem hk, e, Bool.eq_iff_iff]
  simp only [List.mem_append, List.mem_singleton, Bool.or_eq_true, decide_eq_true_eq]
  constructor
  · rintro (h | h)
    · exact .inr h
    · exact .inl (by omega)
  · rintro (h | h)
    · exact .inr (by omega)
    · exact .inl h
theorem hbl_congr {n : Nat} {g g' : Nat → Bool} (h : ∀ i, i < n → g i = g' i) : hbl n g = hbl n g' := by
  unfold hbl
  exact List.map_congr_left fun i hi => by rw [h i (List.mem_range.1 hi)]

end Go.Proofs.Ytdibogabmbnmnaa
