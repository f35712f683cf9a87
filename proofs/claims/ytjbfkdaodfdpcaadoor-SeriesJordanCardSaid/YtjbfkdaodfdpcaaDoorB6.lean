/-
  Texts of this proof, one behind the other: what each says stands at its head. Conditions: none.
-/
import Derived.Test.YtjbfkdaodfdpcaaDoorProg
import Derived.Shelf.Lays
import Derived.Test.YtjbfkdaodfdpcaaDoorB5
import Derived.Test.YtjbfkdaodfdpcaaDoorB3
import Derived.Test.YtjbfkdaodfdpcaaDoorRows
import Derived.ProofKit
import Derived.LaidMore
import Derived.OpenShut
import Derived.Stop.Joined

/-
  Contracts of the library, laid at this dump: numbers, and that each body is the same. Conditions: none; written by a program of this repo out of the kit's own tool.
-/
set_option linter.all false
namespace Go.Proofs
open Go.Shelf
def Tryd.sortI_ren : Go.Shelf.Ren := ⟨fun | 189 => 77 | 125 => 135 | 257 => 134 | 128 => 172 | 129 => 173 | 294 => 163 | 295 => 164 | 296 => 165 | 297 => 166 | 298 => 167 | 299 => 168 | 216 => 169 | 300 => 170 | 301 => 171 | 328 => 187 | 329 => 188 | 330 => 189 | 331 => 190 | 332 => 191 | 215 => 186 | 343 => 203 | n => n, fun | 28 => 22 | 3 => 3 | 46 => 117 | 0 => 0 | 51 => 144 | 53 => 83 | 4 => 4 | 183 => 136 | 182 => 135 | 131 => 141 | 5 => 5 | 9 => 9 | 218 => 154 | 222 => 158 | 228 => 167 | 229 => 168 | n => n, fun | n => n⟩
theorem Tryd.sortI : Go.Proofs.Lays.n189 Tryd.prog Tryd.sortI_ren := {
  mixed := by kernel_rfl
  f125 := Tryd.func135.trans (congrArg some (by kernel_rfl))
  f128 := Tryd.func172.trans (congrArg some (by kernel_rfl))
  f129 := Tryd.func173.trans (congrArg some (by kernel_rfl))
  f189 := Tryd.func77.trans (congrArg some (by kernel_rfl))
  f215 := Tryd.func186.trans (congrArg some (by kernel_rfl))
  f216 := Tryd.func169.trans (congrArg some (by kernel_rfl))
  f257 := Tryd.func134.trans (congrArg some (by kernel_rfl))
  f294 := Tryd.func163.trans (congrArg some (by kernel_rfl))
  f295 := Tryd.func164.trans (congrArg some (by kernel_rfl))
  f296 := Tryd.func165.trans (congrArg some (by kernel_rfl))
  f297 := Tryd.func166.trans (congrArg some (by kernel_rfl))
  f298 := Tryd.func167.trans (congrArg some (by kernel_rfl))
  f299 := Tryd.func168.trans (congrArg some (by kernel_rfl))
  f300 := Tryd.func170.trans (congrArg some (by kernel_rfl))
  f301 := Tryd.func171.trans (congrArg some (by kernel_rfl))
  f328 := Tryd.func187.trans (congrArg some (by kernel_rfl))
  f329 := Tryd.func188.trans (congrArg some (by kernel_rfl))
  f330 := Tryd.func189.trans (congrArg some (by kernel_rfl))
  f331 := Tryd.func190.trans (congrArg some (by kernel_rfl))
  f332 := Tryd.func191.trans (congrArg some (by kernel_rfl))
  f343 := Tryd.func203.trans (congrArg some (by kernel_rfl))
  t0 := Tryd.underlying0
  a0 := Tryd.isAgg0
  z0 := Tryd.sizeOf0
  v0 := Tryd.zeroValue0
  t3 := Tryd.underlying3
  a3 := Tryd.isAgg3
  z3 := Tryd.sizeOf3
  v3 := Tryd.zeroValue3
  t4 := Tryd.underlying4
  a4 := Tryd.isAgg4
  z4 := Tryd.sizeOf4
  v4 := Tryd.zeroValue4
  t5 := Tryd.underlying5
  a5 := Tryd.isAgg5
  z5 := Tryd.sizeOf5
  v5 := Tryd.zeroValue5
  t9 := Tryd.underlying9
  a9 := Tryd.isAgg9
  z9 := Tryd.sizeOf9
  v9 := Tryd.zeroValue9
  t28 := Tryd.underlying22
  a28 := Tryd.isAgg22
  z28 := Tryd.sizeOf22
  v28 := Tryd.zeroValue22
  t46 := Tryd.underlying117
  a46 := Tryd.isAgg117
  z46 := Tryd.sizeOf117
  v46 := Tryd.zeroValue117
  t51 := Tryd.underlying144
  a51 := Tryd.isAgg144
  z51 := Tryd.sizeOf144
  v51 := Tryd.zeroValue144
  t53 := Tryd.underlying83
  a53 := Tryd.isAgg83
  z53 := Tryd.sizeOf83
  v53 := Tryd.zeroValue83
  t131 := Tryd.underlying141
  a131 := Tryd.isAgg141
  z131 := Tryd.sizeOf141
  v131 := Tryd.zeroValue141
  t182 := Tryd.underlying135
  a182 := Tryd.isAgg135
  z182 := Tryd.sizeOf135
  v182 := Tryd.zeroValue135
  t183 := Tryd.underlying136
  a183 := Tryd.isAgg136
  z183 := Tryd.sizeOf136
  v183 := Tryd.zeroValue136
  t218 := Tryd.underlying154
  a218 := Tryd.isAgg154
  z218 := Tryd.sizeOf154
  v218 := Tryd.zeroValue154
  t222 := Tryd.underlying158
  a222 := Tryd.isAgg158
  z222 := Tryd.sizeOf158
  v222 := Tryd.zeroValue158
  t228 := Tryd.underlying167
  a228 := Tryd.isAgg167
  z228 := Tryd.sizeOf167
  v228 := Tryd.zeroValue167
  t229 := Tryd.underlying168
  a229 := Tryd.isAgg168
  z229 := Tryd.sizeOf168
  v229 := Tryd.zeroValue168 }
end Go.Proofs

/-
  The program's Factors. Conditions: none.
-/
set_option linter.all false
namespace Go.Proofs.YtjbfkdaodfdpcaaDoor
open Go.Pv

section
variable {n e k d : Nat} {f g : Nat → Nat → Nat} {p q : Nat → Bool}
theorem ix_pix {x : Nat} (hx : x < n) (px : p x = true) : ix (thl n p) (x : Int) = ((pix p x : Nat) : Int) := by
  obtain ⟨h1, h2⟩ := pix_at hx px
  unfold ix
  have h3 := fst_some (p := fun i => decide ((thl n p).getD i 0 = (x : Int))) h1 (decide_eq_true h2) fun j hj => decide_eq_false fun h => by
    have := pix_get (show j < (thl n p).length by omega) hx px h
    omega
  rw [h3]
theorem ix_out {x : Nat} (hx : x < n) (px : p x = false) : ix (thl n p) (x : Int) < 0 := by
  refine Int.not_le.1 fun hh => ?_
  obtain ⟨i, i1, i2⟩ := (ix_mem _ _).1 hh
  obtain ⟨y, y1, y2, y3⟩ := thl_get i1
  rw [y3] at i2
  have : y = x := by omega
  rw [this, px] at y2; cases y2
/-- Where the things of the second stand in the first. -/
def kix (p : Nat → Bool) (l : List Int) : List Int := l.map fun z => ((pix p z.toNat : Nat) : Int)
theorem kix_len (p : Nat → Bool) (l : List Int) : (kix p l).length = l.length := by simp [kix]
theorem kix_succ (p : Nat → Bool) {l : List Int} {i : Nat} (hi : i < l.length) : kix p (l.take (i + 1)) = kix p (l.take i) ++ [((pix p (l.getD i 0).toNat : Nat) : Int)] := by
  unfold kix
  rw [List.take_succ_eq_append_getElem hi, List.map_append]
  have : l[i] = l.getD i 0 := by simp [List.getD, List.getElem?_eq_getElem hi]
  rw [this]; rfl
theorem kix_all (hle : Inn n p q) : kix p (thl n q) = thl (thl n p).length (dwn n p q) := by
  have h1 := lft_thl p (dwn n p q) n
  rw [thl_congr (lft_dwn hle)] at h1
  rw [← h1]
  unfold kix
  rw [List.map_map]
  refine (List.map_congr_left fun z hz => ?_).trans (List.map_id _)
  obtain ⟨i, i1, _, rfl⟩ := mem_thl.1 hz
  show ((pix p (((lat n p ((i : Nat) : Int).toNat : Nat) : Int)).toNat : Nat) : Int) = (i : Int)
  rw [Int.toNat_natCast, Int.toNat_natCast, (lat_at i1).2.2.2]

theorem simP_mxn (B : Grp k g d) (cw : Nat → Nat → Bool) (hcw : ∀ a x, x < k → (cw a x = true ↔ Gen k g d (cup k g d (onp a)) x)) : SimP k d cw k ↔ Mxn k g d (fun _ => true) (onp d) := by
  have hfull : ∀ a, (thl k (cw a)).length = k ↔ ∀ y, y < k → cw a y = true := fun a => by
    have : (thl k (cw a)).length = (mem k (cw a)).length := thl_len _ _
    rw [this]; exact mem_all
  constructor
  · rintro ⟨h1, h2⟩
    refine ⟨B.onp_sub, fun _ _ _ => rfl, fun c x hc hx _ h => B.one_nml c hc x hx h, ?_, fun x hx _ hxd t ht h3 h4 y hy _ => ?_⟩
    · by_cases hd : d = 0
      · exact ⟨1, h1, rfl, by cases h : onp d 1 with | false => rfl | true => have := onp_iff.1 h; omega⟩
      · exact ⟨0, by omega, rfl, by cases h : onp d 0 with | false => rfl | true => have := onp_iff.1 h; omega⟩
    · rcases h2 x hx with rfl | h5
      · rw [onp_iff.2 rfl] at hxd; cases hxd
      · refine ((hcw x y hy).1 ((hfull x).1 h5 y hy)).sub B ht fun b hb hc => ?_
        obtain ⟨u, v, u1, v1, u2, rfl⟩ := cup_iff.1 hc
        rw [onp_iff.1 u2]
        exact h4 v v1 rfl
  · intro h
    refine ⟨?_, fun a ha => ?_⟩
    · obtain ⟨x, x1, _, x3⟩ := h.ne
      have xd : x ≠ d := fun h => by rw [onp_iff.2 h] at x3; cases x3
      have := B.el
      omega
    · by_cases had : a = d
      · exact .inl had
      · refine .inr ((hfull a).2 fun y hy => ?_)
        have cs := gen_sub B (hcw a)
        refine h.mx a ha rfl (by cases h : onp d a with | false => rfl | true => exact absurd (onp_iff.1 h) had) (cw a) cs (fun z hz h => by rw [onp_iff.1 h]; exact cs.one) (fun b hb _ => ?_) y hy rfl
        have hl := B.cjr_lt ha hb
        exact (hcw a _ hl).2 (Gen.mem B hl (cup_iff.2 ⟨a, b, ha, hb, onp_iff.2 rfl, rfl⟩))
theorem Hm.mxn_iff {φ : Nat → Nat} (H : Hm n f e p k g d φ) (G : Grp n f e) (hq : Sub n f e q) (h1 : ∀ x, x < n → pre p φ (onp d) x = q x) : Mxn n f e p q ↔ Mxn k g d (fun _ => true) (onp d) := by
  have ht : ∀ x, x < n → pre p φ (fun _ => true) x = p x := fun x hx => by show (p x && true) = p x; rw [Bool.and_true]
  constructor
  · intro h
    exact H.of_pre G H.grp.onp_sub ((h.congr_r G (H.pre_sub G H.grp.onp_sub) h1).congr_l ht)
  · intro h
    exact ((H.pre_mxn G H.grp.all_sub h).congr_r G hq fun x hx => (h1 x hx).symm).congr_l fun x hx => (ht x hx).symm
end

section
variable {n e : Nat} {m : List Int} {p q : Nat → Bool}
def Qr (n : Nat) (m : List Int) (e : Nat) (p q : Nat → Bool) : Nat → Nat → Bool := Go.Proofs.YtjbfkdaodfdpcaaDoor.dco (thl n p).length (op (ptb n (op m n) p) (thl n p).length) (dwn n p q) (onp (pix p e))
theorem part_hm2 (h : GT n m n e) (hp : Sub n (op m n) e p) : Hm n (op m n) e p (thl n p).length (op (ptb n (op m n) p) (thl n p).length) (pix p e) (pix p) :=
  (part_hm h.2.2 hp).cong_op (ptb_op _) (ptb_GT h hp).2.2
theorem dwn_sub2 (h : GT n m n e) (hp : Sub n (op m n) e p) (hq : Sub n (op m n) e q) : Sub (thl n p).length (op (ptb n (op m n) p) (thl n p).length) (pix p e) (dwn n p q) :=
  (dwn_sub h.2.2 hp hq).cong_op (ptb_GT h hp).2.2 (cong_symm (ptb_op _))
theorem dwn_nml2 (h : GT n m n e) (hp : Sub n (op m n) e p) (hle : Inn n p q) : Nml (thl n p).length (op (ptb n (op m n) p) (thl n p).length) (pix p e) (dwn n p q) ↔ Nin n (op m n) e p q := by
  have h1 := dwn_nml (q := q) h.2.2 hp
  constructor
  · intro hh a x ha hx pa qx
    exact h1.1 (hh.cong_op (ptb_grp h.2.2 hp) (ptb_op _)) a x ha hx pa (hle x hx qx) qx
  · intro hh
    exact (h1.2 fun a x ha hx pa _ qx => hh a x ha hx pa qx).cong_op (ptb_GT h hp).2.2 (cong_symm (ptb_op _))
theorem step_gt (h : GT n m n e) (hp : Sub n (op m n) e p) (hq : Sub n (op m n) e q) (hle : Inn n p q) (hN : Nin n (op m n) e p q) :
    ∃ φ d, GT (cst (thl n p).length (Qr n m e p q)).length (qtb (thl n p).length (op (ptb n (op m n) p) (thl n p).length) (Qr n m e p q)) (cst (thl n p).length (Qr n m e p q)).length d ∧
      Hm n (op m n) e p (cst (thl n p).length (Qr n m e p q)).length (op (qtb (thl n p).length (op (ptb n (op m n) p) (thl n p).length) (Qr n m e p q)) (cst (thl n p).length (Qr n m e p q)).length) d φ ∧
      (∀ x, x < n → pre p φ (onp d) x = q x) ∧ (cst (thl n p).length (Qr n m e p q)).length * (mem n q).length = (mem n p).length := by
  have hP := ptb_GT h hp
  have ds := dwn_sub2 h hp hq
  have dn := (dwn_nml2 h hp hle).2 hN
  have hQ := qtb_GT hP ds dn
  have H1 := part_hm2 h hp
  have H2 := (quot_hm hP.2.2 ds dn).cong_op (fun a b ha hb => qtb_op ha hb) hQ.2.2
  refine ⟨_, _, hQ, H1.comp H2, fun x hx => ?_, ?_⟩
  · unfold pre
    cases px : p x with
    | false =>
      cases qx : q x with
      | false => rfl
      | true => rw [hle x hx qx] at px; cases px
    | true =>
      rw [Bool.true_and, Bool.eq_iff_iff, onp_iff]
      refine (quot_ker hP.2.2 ds (H1.lt x hx px)).trans ?_
      unfold dwn
      rw [lat_pix hx px]
  · have := quot_num hP.2.2 ds
    rw [dwn_len hle] at this
    have e1 : (thl n p).length = (mem n p).length := thl_len _ _
    rw [← e1]; exact this

/-- A row as Is has it. -/
theorem row3 (h : GT n m n e) (l : List Int) (hl : l.length ≤ 1000000000000000) : okR n (op m n) e l = true ∨ (okR n (op m n) e l = false ∧ ∃ w : Int × Int, w.1 = 0 ∧ FnC Tryd.prog 55 [gp n m, .list (il l)] (.tup [.bool false, fl w])) ∨ (okR n (op m n) e l = false ∧ ∃ w : Int × Int, ¬ w.1 = 0 ∧ FnC Tryd.prog 55 [gp n m, .list (il l)] (.tup [.bool false, fl w])) := by
  cases ho : okR n (op m n) e l with
  | true => exact .inl rfl
  | false =>
    refine .inr ?_
    rcases sub3 n m l with ⟨n', e', q, h', hn, rfl, hs⟩ | ⟨n', e', q, h', hn, rfl, hs⟩ | hf
    · have : n' = n := by omega
      subst this
      have he : e' = e := by
        have h1 := h'.2.2.one_l e h.2.2.el
        rw [h.2.2.one_r e' h'.2.2.el] at h1
        exact h1
      subst he
      rw [(okR_thl h.2.2).2 hs] at ho; cases ho
    · have : n' = n := by omega
      subst this
      exact .inl ⟨rfl, (0, 0), rfl, is_ok h' q false (by simp [hs])⟩
    · exact .inr ⟨rfl, _, hf, is_no n m l (by have := h.2.1.len; have := sq_le h.2.1.big; omega) hl hf⟩

theorem serFault_c (c a : Int) : FnC Tryd.prog 74 [.int .i64 c, .int .i64 a] (fl (c, a)) := by
  refine fnc_of tab_ok Tryd.func74 rfl (by kernel_rfl) (by rw [Tryd.ntmps74]; exact Nat.le_add_left 2 _) ?_; rw [Tryd.ntmps74]
  refine qm ?_
  refine hk_region fun K hK => runs_eval tab_ok ?_
  simp only [ev0, evA, evB, evP, fl, gp, tab, simprocAttr, reduceCtorEq, reduceIte]
  refine fin_run ?_ (hK _ ?_) <;> clear hK <;> clear K
  · (first | exact trivial | omega | (simp only [In64] at *; omega) | (simp [In64] at *; omega) | (simp_all; done) | skip)
  refine qa (qm ?_)
  refine hk_region fun K hK => runs_eval tab_ok ?_
  simp only [ev0, evA, evB, evP, fl, gp, tab, simprocAttr, reduceCtorEq, reduceIte]
  refine fin_run ?_ (hK _ ?_) <;> clear hK <;> clear K
  · (first | exact trivial | omega | (simp only [In64] at *; omega) | (simp [In64] at *; omega) | (simp_all; done) | skip)
  refine qa (qk ?_)
  simp only [Tryd.results74, enA, ev0, evA, evB, evP, fl, gp, tab, simprocAttr, reduceCtorEq, reduceIte]
  all_goals ((first | exact rfl | exact ⟨rfl, rfl⟩ | exact ⟨rfl, rfl, rfl⟩ | exact ⟨trivial, rfl⟩ | exact ⟨Nat.le_refl _, rfl⟩ | trivial | (simp; done)))

theorem cwx (n : Nat) (f : Nat → Nat → Nat) (e : Nat) : ∃ cw : Nat → Nat → Bool, ∀ a x, x < n → (cw a x = true ↔ Gen n f e (cup n f e (onp a)) x) := by
  obtain ⟨nx, h⟩ := nx_ex n f e (fun p => cup n f e p)
  exact ⟨fun a => nx (onp a), fun a x hx => h (onp a) x hx⟩
set_option maxHeartbeats 8000000 in
set_option maxRecDepth 20000 in
theorem factors_ok (h : GT n m n e) (ls : List (List Int)) (hw : Fw n ls) (hr : ∀ w ∈ ls, w.length ≤ 17592186043904) : FnC Tryd.prog 15 [gp n m, .list (ll ls)] (.tup [.list (il (fsp n (op m n) e ls).1), fl (fsp n (op m n) e ls).2]) := by
  have G := h.2.2
  have hb := h.2.1.big
  have hml := h.2.1.len
  have hsq := sq_le hb
  have hlo := hw.lo
  have hhi := hw.hi
  have hll := ll_length ls
  have hl0 := ll_get (ls := ls) (i := 0) (by omega)
  have hlZ := ll_get (ls := ls) (i := ls.length - 1) (by omega)
  have hl1 : ((ls.length : Int) - 1) = ((ls.length - 1 : Nat) : Int) := by omega
  have hrow : ∀ i, i < ls.length → (ls.getD i []).length ≤ 17592186043904 := fun i hi => hr _ (by simp [List.getD, List.getElem?_eq_getElem hi])
  have hr0 := hrow 0 (by omega)
  have hrZ := hrow (ls.length - 1) (by omega)
  refine fnc_of tab_ok Tryd.func15 rfl (by kernel_rfl) (by rw [Tryd.ntmps15]; exact Nat.le_add_left 2 _) ?_; rw [Tryd.ntmps15]
  refine qm ?_
  refine hk_region fun K hK => runs_eval tab_ok ?_
  simp only [ev0, evA, evB, evP, fl, gp, tab, simprocAttr, reduceCtorEq, reduceIte]
  refine fin_run ?_ (hK _ ?_) <;> clear hK <;> clear K
  · (first | exact trivial | omega | (simp only [In64] at *; omega) | (simp [In64] at *; omega) | (simp_all; done) | skip)
  refine qa (qm (qm ?_))
  refine hk_region fun K hK => runs_eval tab_ok ?_
  simp only [ev0, evA, evB, evP, fl, gp, tab, simprocAttr, reduceCtorEq, reduceIte]
  refine fin_stop trivial (runs_call (check_c n m (by omega)) rfl rfl rfl (by simp only [dstOk, Nat.reduceLT]) (by repeat (first | exact trivial | constructor)) (runs_eval tab_ok ?_))
  simp only [ev0, evA, evB, evP, fl, gp, tab, simprocAttr, reduceCtorEq, reduceIte, gf_of h]
  refine fin_run ?_ (hK _ ?_) <;> clear hK <;> clear K
  · (first | exact trivial | omega | (simp only [In64] at *; omega) | (simp [In64] at *; omega) | (simp_all; done) | skip)
  refine qa (qm ?_)
  refine hk_region fun K hK => runs_eval tab_ok ?_
  simp only [ev0, evA, evB, evP, fl, gp, tab, simprocAttr, reduceCtorEq, reduceIte]
  refine fin_run ?_ (hK _ ?_) <;> clear hK <;> clear K
  · (first | exact trivial | omega | (simp only [In64] at *; omega) | (simp [In64] at *; omega) | (simp_all; done) | skip)
  refine qa ?_
  refine hk_cond rfl (fun hC1 => ?_) (fun hC1 => ?_)
  · cases hC1
  · (try simp only [nhs] at hC1)
    refine qh (qa (qm (qm ?_)))
    refine hk_region fun K hK => runs_eval tab_ok ?_
    simp only [ev0, evA, evB, evP, fl, gp, tab, simprocAttr, reduceCtorEq, reduceIte, ll_length, decide_eq_false (show ¬ ((ls.length : Nat) : Int) < 1 by omega)]
    refine fin_run trivial (hK _ ?_) <;> clear hK <;> clear K
    refine qa ?_
    refine hk_cond rfl (fun hC2 => ?_) (fun hC2 => ?_)
    · (try simp only [nhs] at hC2)
      omega
    · (try simp only [nhs] at hC2)
      refine qh (qa (qm (qm ?_)))
      by_cases k6 : (ls.getD 0 []).length = n
      · refine hk_draw mixed (by kernel_rfl) fun K hK => runs_eval tab_ok ?_
        simp only [ev0, evA, evB, evP, fl, gp, tab, simprocAttr, reduceCtorEq, reduceIte, ll_length, hl0, il_length, hl1, hlZ, bne_self_eq_false, k6]
        refine fin_run ?_ (hK _ ?_) <;> clear hK <;> clear K
        · (first | exact trivial | omega | (simp only [In64] at *; omega) | (simp [In64] at *; omega) | (simp_all; done) | skip)
        refine qa ?_
        refine hk_cond rfl (fun hC3 => ?_) (fun hC3 => ?_)
        · (try simp only [nhs] at hC3)
          have hsz := fsp_size (f := op m n) (e := e) hw (.inr fun hh => hC3 (by omega))
          refine qm ?_
          refine hk_region fun K hK => runs_eval tab_ok ?_
          simp only [ev0, evA, evB, evP, fl, gp, tab, simprocAttr, reduceCtorEq, reduceIte]
          refine fin_stop trivial (runs_call (serFault_c 8 0) rfl rfl rfl (by simp only [dstOk, Nat.reduceLT]) (by repeat (first | exact trivial | constructor)) (runs_eval tab_ok ?_))
          simp only [ev0, evA, evB, evP, fl, gp, tab, simprocAttr, reduceCtorEq, reduceIte]
          refine fin_run ?_ (hK _ ?_) <;> clear hK <;> clear K
          · (first | exact trivial | omega | (simp only [In64] at *; omega) | (simp [In64] at *; omega) | (simp_all; done) | skip)
          refine qa (qk (qb ?_))
          simp only [Tryd.results15, enA, ev0, evA, evB, evP, fl, gp, tab, simprocAttr, reduceCtorEq, reduceIte]
          all_goals (rw [hsz]; exact ⟨rfl, rfl, rfl⟩)
        · (try simp only [nhs] at hC3)
          have hz : Fz n ls := ⟨hw, k6, by omega⟩
          refine qh (qa (qm (qm ?_)))
          refine hk_region fun K hK => runs_eval tab_ok ?_
          simp only [ev0, evA, evB, evP, fl, gp, tab, simprocAttr, reduceCtorEq, reduceIte]
          refine fin_run trivial (hK _ ?_) <;> clear hK <;> clear K
          refine qa (ql ?_)
          refine hk_loop (ι := Nat) (fun i => ⟨153, [(1, .p (.list (ll ls))), (2, .ptr 0 0), (5, .ptr 1 0), (58, .p (.list (ll ls))), (59, .p (.int .i64 ls.length)), (60, .p (.int .i64 i))], [.own [.p (.int .i64 n), .p (.list (il m))], .own [.p (.int .i64 0), .p (.int .i64 0)]]⟩) (fun i => i ≤ ls.length ∧ ∀ j, j < i → okR n (op m n) e (ls.getD j []) = true) (fun i => ls.length - i) 0 ⟨Nat.zero_le _, fun j hj => by omega⟩ [0, 1] (by simp only [leq, leA, ev0, evA, evB, evP, fl, gp, tab, simprocAttr, reduceCtorEq, reduceIte, ll_length] <;> trivial) fun i hi => ?_
          obtain ⟨hi1, hi2⟩ := hi
          refine qm ?_
          refine hk_region fun K hK => runs_eval tab_ok ?_
          simp only [ev0, evA, evB, evP, fl, gp, tab, simprocAttr, reduceCtorEq, reduceIte]
          refine fin_run trivial (hK _ ?_) <;> clear hK <;> clear K
          refine qa (qm ?_)
          refine hk_cond rfl (fun hC4 => ?_) (fun hC4 => ?_)
          · (try simp only [nhs] at hC4)
            have hil : i < ls.length := by omega
            have hli := ll_get (ls := ls) (i := i) hil
            have hri := hrow i hil
            refine qh (qa (qm (ql (qm ?_))))
            refine hk_region fun K hK => runs_eval tab_ok ?_
            simp only [ev0, evA, evB, evP, fl, gp, tab, simprocAttr, reduceCtorEq, reduceIte, ll_length, hli]
            refine fin_run ?_ (hK _ ?_) <;> clear hK <;> clear K
            · (first | exact trivial | omega | (simp only [In64] at *; omega) | (simp [In64] at *; omega) | (simp_all; done) | skip)
            refine qa (qm ?_)
            rcases row3 h (ls.getD i []) (by omega) with hok | ⟨hok, w, hw0, hIs⟩ | ⟨hok, w, hw0, hIs⟩
            · obtain ⟨hrw, hsub⟩ := okR_row G hok
              have hIs := is_ok h (tst (ls.getD i [])) true ⟨fun _ => hsub, fun _ => rfl⟩
              rw [← hrw] at hIs
              refine hk_region fun K hK => runs_eval tab_ok ?_
              simp only [ev0, evA, evB, evP, fl, gp, tab, simprocAttr, reduceCtorEq, reduceIte]
              refine fin_stop trivial (runs_call (hIs) rfl rfl rfl (by simp only [dstOk, Nat.reduceLT]) (by repeat (first | exact trivial | constructor)) (runs_eval tab_ok ?_))
              simp only [ev0, evA, evB, evP, fl, gp, tab, simprocAttr, reduceCtorEq, reduceIte]
              refine fin_run ?_ (hK _ ?_) <;> clear hK <;> clear K
              · (first | exact trivial | omega | (simp only [In64] at *; omega) | (simp [In64] at *; omega) | (simp_all; done) | skip)
              refine qa (qm ?_)
              refine hk_region fun K hK => runs_eval tab_ok ?_
              simp only [ev0, evA, evB, evP, fl, gp, tab, simprocAttr, reduceCtorEq, reduceIte]
              refine fin_run ?_ (hK _ ?_) <;> clear hK <;> clear K
              · (first | exact trivial | omega | (simp only [In64] at *; omega) | (simp [In64] at *; omega) | (simp_all; done) | skip)
              refine qa ?_
              refine hk_cond rfl (fun hC5 => ?_) (fun hC5 => ?_)
              · cases hC5
              · (try simp only [nhs] at hC5)
                refine qh (qd (qa ?_))
                refine hk_region fun K hK => runs_eval tab_ok ?_
                simp only [ev0, evA, evB, evP, fl, gp, tab, simprocAttr, reduceCtorEq, reduceIte]
                refine fin_run ?_ (hK _ ?_) <;> clear hK <;> clear K
                · (first | exact trivial | omega | (simp only [In64] at *; omega) | (simp [In64] at *; omega) | (simp_all; done) | skip)
                refine qa ?_
                refine ⟨i + 1, [0, 1], ⟨by omega, fun j hj => ?_⟩, by omega, ?_⟩
                · by_cases hji : j = i
                  · rw [hji]; exact hok
                  · exact hi2 j (by omega)
                · simp only [leq, leA, ev0, evA, evB, evP, fl, gp, tab, simprocAttr, reduceCtorEq, reduceIte, ll_length] <;> first | trivial | omega
            · refine hk_region fun K hK => runs_eval tab_ok ?_
              simp only [ev0, evA, evB, evP, fl, gp, tab, simprocAttr, reduceCtorEq, reduceIte]
              refine fin_stop trivial (runs_call (hIs) rfl rfl rfl (by simp only [dstOk, Nat.reduceLT]) (by repeat (first | exact trivial | constructor)) (runs_eval tab_ok ?_))
              simp only [ev0, evA, evB, evP, fl, gp, tab, simprocAttr, reduceCtorEq, reduceIte]
              refine fin_run ?_ (hK _ ?_) <;> clear hK <;> clear K
              · (first | exact trivial | omega | (simp only [In64] at *; omega) | (simp [In64] at *; omega) | (simp_all; done) | skip)
              refine qa (qm ?_)
              refine hk_region fun K hK => runs_eval tab_ok ?_
              simp only [ev0, evA, evB, evP, fl, gp, tab, simprocAttr, reduceCtorEq, reduceIte, hw0]
              refine fin_run ?_ (hK _ ?_) <;> clear hK <;> clear K
              · (first | exact trivial | omega | (simp only [In64] at *; omega) | (simp [In64] at *; omega) | (simp_all; done) | skip)
              refine qa ?_
              refine hk_cond rfl (fun hC5 => ?_) (fun hC5 => ?_)
              · (try simp only [nhs] at hC5)
                refine qm ?_
                refine hk_region fun K hK => runs_eval tab_ok ?_
                simp only [ev0, evA, evB, evP, fl, gp, tab, simprocAttr, reduceCtorEq, reduceIte]
                refine fin_stop trivial (runs_call (serFault_c 5 i) rfl rfl rfl (by simp only [dstOk, Nat.reduceLT]) (by repeat (first | exact trivial | constructor)) (runs_eval tab_ok ?_))
                simp only [ev0, evA, evB, evP, fl, gp, tab, simprocAttr, reduceCtorEq, reduceIte]
                refine fin_run ?_ (hK _ ?_) <;> clear hK <;> clear K
                · (first | exact trivial | omega | (simp only [In64] at *; omega) | (simp [In64] at *; omega) | (simp_all; done) | skip)
                refine qa (qk (qe (qb (qb (qe (qb ?_))))))
                simp only [Tryd.results15, enA, ev0, evA, evB, evP, fl, gp, tab, simprocAttr, reduceCtorEq, reduceIte]
                all_goals (rw [fsp_form hz hil hok hi2]; exact ⟨rfl, rfl, rfl⟩)
              · cases hC5
            · refine hk_region fun K hK => runs_eval tab_ok ?_
              simp only [ev0, evA, evB, evP, fl, gp, tab, simprocAttr, reduceCtorEq, reduceIte]
              refine fin_stop trivial (runs_call (hIs) rfl rfl rfl (by simp only [dstOk, Nat.reduceLT]) (by repeat (first | exact trivial | constructor)) (runs_eval tab_ok ?_))
              simp only [ev0, evA, evB, evP, fl, gp, tab, simprocAttr, reduceCtorEq, reduceIte]
              refine fin_run ?_ (hK _ ?_) <;> clear hK <;> clear K
              · (first | exact trivial | omega | (simp only [In64] at *; omega) | (simp [In64] at *; omega) | (simp_all; done) | skip)
              refine qa (qm ?_)
              refine hk_region fun K hK => runs_eval tab_ok ?_
              simp only [ev0, evA, evB, evP, fl, gp, tab, simprocAttr, reduceCtorEq, reduceIte, decide_eq_false hw0]
              refine fin_run ?_ (hK _ ?_) <;> clear hK <;> clear K
              · (first | exact trivial | omega | (simp only [In64] at *; omega) | (simp [In64] at *; omega) | (simp_all; done) | skip)
              refine qa ?_
              refine hk_cond rfl (fun hC5 => ?_) (fun hC5 => ?_)
              · refine qm ?_
                refine hk_region fun K hK => runs_eval tab_ok ?_
                simp only [ev0, evA, evB, evP, fl, gp, tab, simprocAttr, reduceCtorEq, reduceIte]
                refine fin_stop trivial (runs_call (serFault_c 5 i) rfl rfl rfl (by simp only [dstOk, Nat.reduceLT]) (by repeat (first | exact trivial | constructor)) (runs_eval tab_ok ?_))
                simp only [ev0, evA, evB, evP, fl, gp, tab, simprocAttr, reduceCtorEq, reduceIte]
                refine fin_run ?_ (hK _ ?_) <;> clear hK <;> clear K
                · (first | exact trivial | omega | (simp only [In64] at *; omega) | (simp [In64] at *; omega) | (simp_all; done) | skip)
                refine qa (qk (qe (qb (qb (qe (qb ?_))))))
                simp only [Tryd.results15, enA, ev0, evA, evB, evP, fl, gp, tab, simprocAttr, reduceCtorEq, reduceIte]
                all_goals (rw [fsp_form hz hil hok hi2]; exact ⟨rfl, rfl, rfl⟩)
              · cases hC5
          · (try simp only [nhs] at hC4)
            have hin : i = ls.length := by omega
            have ho : Fo n (op m n) e ls := ⟨hz, fun j hj => hi2 j (by omega)⟩
            refine qj (qc (qc (qf (qa (qm ?_)))))
            refine hk_region fun K hK => runs_eval tab_ok ?_
            simp only [ev0, evA, evB, evP, fl, gp, tab, simprocAttr, reduceCtorEq, reduceIte]
            refine fin_run trivial (hK _ ?_) <;> clear hK <;> clear K
            refine qa (qm (qm ?_))
            refine hk_own0 11 rfl ?_
            refine hk_region fun K hK => runs_eval tab_ok ?_
            simp only [ev0, evA, evB, evP, fl, gp, tab, simprocAttr, reduceCtorEq, reduceIte]
            refine fin_run ?_ (hK _ ?_) <;> clear hK <;> clear K
            · (first | exact trivial | omega | (simp only [In64] at *; omega) | (simp [In64] at *; omega) | (simp_all; done) | skip)
            refine qa (ql ?_)
            have htk : List.take (ls.length - 1) (List.drop 1 (ll ls)) = List.drop 1 (ll ls) := List.take_of_length_le (by rw [List.length_drop, ll_length]; exact Nat.le_refl _)
            have hdl : (List.drop 1 (ll ls)).length = ls.length - 1 := by rw [List.length_drop, ll_length]
            have hf0 : facL ls 0 = [] := rfl
            refine hk_loop (ι := Nat) (fun k => ⟨153, [(1, .p (.list (ll ls))), (2, .ptr 0 0), (5, .ptr 1 0), (11, .sl 2 0 (facL ls k).length), (82, .p (.list (List.drop 1 (ll ls)))), (83, .p (.int .i64 ((ls.length - 1 : Nat) : Int))), (84, .p (.int .i64 k))], [.own [.p (.int .i64 n), .p (.list (il m))], .own [.p (.int .i64 0), .p (.int .i64 0)], .own (ol (facL ls k))]⟩) (fun k => k ≤ ls.length - 1 ∧ ∀ j, j < k → Mxn n (op m n) e (tsl ls j) (tsl ls (j + 1))) (fun k => ls.length - k) 0 ⟨Nat.zero_le _, fun j hj => by omega⟩ [0, 1, 2] (by simp only [leq, leA, ev0, evA, evB, evP, fl, gp, tab, simprocAttr, reduceCtorEq, reduceIte, ll_length, htk, hdl, hf0, ol_nil] <;> first | trivial | exact ⟨rfl, rfl⟩ | rfl | omega | trace_state) fun k hk => ?_
            obtain ⟨hk1, hk2⟩ := hk
            have hfl := facL_len ls k
            refine qm ?_
            refine hk_region fun K hK => runs_eval tab_ok ?_
            simp only [ev0, evA, evB, evP, fl, gp, tab, simprocAttr, reduceCtorEq, reduceIte]
            refine fin_run trivial (hK _ ?_) <;> clear hK <;> clear K
            refine qa (qm ?_)
            refine hk_cond rfl (fun hC6 => ?_) (fun hC6 => ?_)
            · (try simp only [nhs] at hC6)
              have hkl : k < ls.length - 1 := by omega
              obtain ⟨hpk, hp⟩ := okR_row G (ho.ok k (by omega))
              obtain ⟨hqk, hq⟩ := okR_row G (ho.ok (k + 1) (by omega))
              have hgk := ll_get (ls := ls) (i := k) (by omega)
              have hgq := ll_get (ls := ls) (i := k + 1) (by omega)
              have hdd : (List.drop 1 (ll ls)).getD k default = (ll ls).getD (k + 1) default := by
                rw [List.getD_eq_getElem?_getD, List.getD_eq_getElem?_getD, List.getElem?_drop, Nat.add_comm]
              have hfs := facL_succ ls k
              have hts : tsl ls k = tst (ls.getD k []) := rfl
              have htq : tsl ls (k + 1) = tst (ls.getD (k + 1) []) := rfl
              rw [← hts] at hpk hp
              rw [← htq] at hqk hq
              clear hts htq
              rw [hgq, hqk] at hdd
              rw [hpk] at hgk
              rw [hpk, hqk] at hfs
              have hst := fsp_step ho hkl (f := op m n)
              generalize hpd : tsl ls k = p at *
              generalize hqd : tsl ls (k + 1) = q at *
              have lp := thl_le n p
              have lq := thl_le n q
              have ep : (thl n p).length = (mem n p).length := thl_len _ _
              have eq' : (thl n q).length = (mem n q).length := thl_len _ _
              have hP := ptb_GT h hp
              refine qh (qa (qm (ql (qm ?_))))
              refine hk_region fun K hK => runs_eval tab_ok ?_
              simp only [ev0, evA, evB, evP, fl, gp, tab, simprocAttr, reduceCtorEq, reduceIte, hdd, hdl]
              refine fin_run ?_ (hK _ ?_) <;> clear hK <;> clear K
              · (first | exact trivial | omega | (simp only [In64] at *; omega) | (simp [In64] at *; omega) | (simp_all; done) | skip)
              refine qa (qm ?_)
              refine hk_draw2 mixed fun K hK => runs2_eval tab_ok ?_
              simp only [evD, ev0, evA, evB, evP, fl, gp, tab, simprocAttr, reduceCtorEq, reduceIte, hgk, ll_length]
              refine fin2_stop ?_ (runs2_call (part_ok h p hp) rfl rfl rfl rfl (by simp only [dstOk, Nat.reduceLT]) (by repeat (first | exact trivial | constructor)) (runs2_eval tab_ok ?_))
              · (first | exact trivial | omega | (simp only [In64] at *; omega) | (simp [In64] at *; omega) | (simp_all; done) | skip)
              simp only [evD, ev0, evA, evB, evP, fl, gp, tab, simprocAttr, reduceCtorEq, reduceIte, hgk, ll_length]
              refine fin2_run ?_ (hK _ _ (by first | kernel_rfl | rfl) ?_) <;> clear hK <;> clear K
              · (first | exact trivial | omega | (simp only [In64] at *; omega) | (simp [In64] at *; omega) | (simp_all; done) | skip)
              refine qa (qm ?_)
              refine hk_region fun K hK => runs_eval tab_ok ?_
              simp only [ev0, evA, evB, evP, fl, gp, tab, simprocAttr, reduceCtorEq, reduceIte]
              refine fin_run trivial (hK _ ?_) <;> clear hK <;> clear K
              refine qa (qm (qm ?_))
              refine hk_own0 16 rfl ?_
              refine hk_region fun K hK => runs_eval tab_ok ?_
              simp only [ev0, evA, evB, evP, fl, gp, tab, simprocAttr, reduceCtorEq, reduceIte, il_length]
              refine fin_run trivial (hK _ ?_) <;> clear hK <;> clear K
              refine qa (ql ?_)
              refine hk_loop (ι := Nat) (fun j => ⟨153, [(1, .p (.list (ll ls))), (2, .ptr 0 0), (5, .ptr 1 0), (11, .sl 2 0 (facL ls k).length), (12, .p (.int .i64 k)), (14, .ptr 3 0), (16, .sl 4 0 (kix p ((thl n q).take j)).length), (82, .p (.list (List.drop 1 (ll ls)))), (83, .p (.int .i64 ((ls.length - 1 : Nat) : Int))), (84, .p (.int .i64 k)), (98, .p (.list (il (thl n q)))), (99, .p (.int .i64 (thl n q).length)), (100, .p (.int .i64 j))], [.own [.p (.int .i64 n), .p (.list (il m))], .own [.p (.int .i64 0), .p (.int .i64 0)], .own (ol (facL ls k)), .own [.p (.int .i64 (thl n p).length), .p (.list (il (ptb n (op m n) p)))], .own (ol (kix p ((thl n q).take j)))]⟩) (fun j => j ≤ (thl n q).length ∧ ∀ i, i < j → p ((thl n q).getD i 0).toNat = true) (fun j => (thl n q).length - j) 0 ⟨Nat.zero_le _, fun j hj => by omega⟩ [0, 1, 2, 3, 5] (by simp only [leq, leA, ev0, evA, evB, evP, fl, gp, tab, simprocAttr, reduceCtorEq, reduceIte] <;> first | trivial | exact ⟨rfl, rfl⟩ | rfl | omega | simp [kix, ol_nil]) fun j hj => ?_
              obtain ⟨hj1, hj2⟩ := hj
              refine qm ?_
              refine hk_region fun K hK => runs_eval tab_ok ?_
              simp only [ev0, evA, evB, evP, fl, gp, tab, simprocAttr, reduceCtorEq, reduceIte]
              refine fin_run trivial (hK _ ?_) <;> clear hK <;> clear K
              refine qa (qm ?_)
              refine hk_cond rfl (fun hC7 => ?_) (fun hC7 => ?_)
              · (try simp only [nhs] at hC7)
                have hjl : j < (thl n q).length := by omega
                obtain ⟨x, x1, x2, x3⟩ := thl_get hjl
                have hkl2 := kix_len p ((thl n q).take j)
                rw [List.length_take] at hkl2
                refine qh (qa (qm (ql (qm ?_))))
                refine hk_region fun K hK => runs_eval tab_ok ?_
                simp only [ev0, evA, evB, evP, fl, gp, tab, simprocAttr, reduceCtorEq, reduceIte, il_get hjl, x3, il_length]
                refine fin_run ?_ (hK _ ?_) <;> clear hK <;> clear K
                · (first | exact trivial | omega | (simp only [In64] at *; omega) | (simp [In64] at *; omega) | (simp_all; done) | skip)
                refine qa (qm ?_)
                by_cases px : p x = true
                · refine hk_region fun K hK => runs_eval tab_ok ?_
                  simp only [ev0, evA, evB, evP, fl, gp, tab, simprocAttr, reduceCtorEq, reduceIte, hgk, ll_length]
                  refine fin_stop ?_ (runs_call (index_c (thl n p) (x : Int) (by omega)) rfl rfl rfl (by simp only [dstOk, Nat.reduceLT]) (by repeat (first | exact trivial | constructor)) (runs_eval tab_ok ?_))
                  · (first | exact trivial | omega | (simp only [In64] at *; omega) | (simp [In64] at *; omega) | (simp_all; done) | skip)
                  simp only [ev0, evA, evB, evP, fl, gp, tab, simprocAttr, reduceCtorEq, reduceIte, ix_pix x1 px, hgk, ll_length]
                  refine fin_run ?_ (hK _ ?_) <;> clear hK <;> clear K
                  · (first | exact trivial | omega | (simp only [In64] at *; omega) | (simp [In64] at *; omega) | (simp_all; done) | skip)
                  refine qa (qm (qm ?_))
                  refine hk_region fun K hK => runs_eval tab_ok ?_
                  simp only [ev0, evA, evB, evP, fl, gp, tab, simprocAttr, reduceCtorEq, reduceIte]
                  refine fin_run trivial (hK _ ?_) <;> clear hK <;> clear K
                  refine qa ?_
                  refine hk_cond rfl (fun hC8 => ?_) (fun hC8 => ?_)
                  · (try simp only [nhs] at hC8)
                    omega
                  · (try simp only [nhs] at hC8)
                    refine qh (qa ?_)
                    refine hk_region fun K hK => runs_eval tab_ok ?_
                    simp only [ev0, evA, evB, evP, fl, gp, tab, simprocAttr, reduceCtorEq, reduceIte]
                    refine fin_run ?_ (hK _ ?_) <;> clear hK <;> clear K
                    · (first | exact trivial | omega | (simp only [In64] at *; omega) | (simp [In64] at *; omega) | (simp_all; done) | skip)
                    refine qd (qa ?_)
                    refine hk_region fun K hK => runs_eval tab_ok ?_
                    simp only [ev0, evA, evB, evP, fl, gp, tab, simprocAttr, reduceCtorEq, reduceIte]
                    refine fin_run ?_ (hK _ ?_) <;> clear hK <;> clear K
                    · (first | exact trivial | omega | (simp only [In64] at *; omega) | (simp [In64] at *; omega) | (simp_all; done) | skip)
                    refine qa ?_
                    refine ⟨j + 1, [0, 1, 2, 3, 5], ⟨by omega, fun i hi => ?_⟩, by omega, ?_⟩
                    · by_cases hij : i = j
                      · rw [hij, x3]; exact px
                      · exact hj2 i (by omega)
                    · rw [kix_succ p hjl, x3, Int.toNat_natCast]
                      simp only [leq, leA, ev0, evA, evB, evP, fl, gp, tab, simprocAttr, reduceCtorEq, reduceIte] <;> first | trivial | omega | (simp only [List.length_append, List.length_cons, List.length_nil]; omega) | exact congrArg ol (List.take_of_length_le (by simp only [List.length_append, List.length_cons, List.length_nil]; omega)).symm | trace_state
                · have pxf : p x = false := by simpa using px
                  refine hk_region fun K hK => runs_eval tab_ok ?_
                  simp only [ev0, evA, evB, evP, fl, gp, tab, simprocAttr, reduceCtorEq, reduceIte, hgk, ll_length]
                  refine fin_stop ?_ (runs_call (index_c (thl n p) (x : Int) (by omega)) rfl rfl rfl (by simp only [dstOk, Nat.reduceLT]) (by repeat (first | exact trivial | constructor)) (runs_eval tab_ok ?_))
                  · (first | exact trivial | omega | (simp only [In64] at *; omega) | (simp [In64] at *; omega) | (simp_all; done) | skip)
                  simp only [ev0, evA, evB, evP, fl, gp, tab, simprocAttr, reduceCtorEq, reduceIte, hgk, ll_length]
                  refine fin_run ?_ (hK _ ?_) <;> clear hK <;> clear K
                  · (first | exact trivial | omega | (simp only [In64] at *; omega) | (simp [In64] at *; omega) | (simp_all; done) | skip)
                  refine qa (qm (qm ?_))
                  refine hk_region fun K hK => runs_eval tab_ok ?_
                  simp only [ev0, evA, evB, evP, fl, gp, tab, simprocAttr, reduceCtorEq, reduceIte]
                  refine fin_run trivial (hK _ ?_) <;> clear hK <;> clear K
                  refine qa ?_
                  refine hk_cond rfl (fun hC8 => ?_) (fun hC8 => ?_)
                  · (try simp only [nhs] at hC8)
                    have hninn : ¬ Inn n p q := fun hh => px (hh x x1 x2)
                    refine qm ?_
                    refine hk_region fun K hK => runs_eval tab_ok ?_
                    simp only [ev0, evA, evB, evP, fl, gp, tab, simprocAttr, reduceCtorEq, reduceIte]
                    refine fin_stop ?_ (runs_call (serFault_c 7 ((k : Int) + 1)) rfl rfl rfl (by simp only [dstOk, Nat.reduceLT]) (by repeat (first | exact trivial | constructor)) (runs_eval tab_ok ?_))
                    · (first | exact trivial | omega | (simp only [In64] at *; omega) | (simp [In64] at *; omega) | (simp_all; done) | skip)
                    simp only [ev0, evA, evB, evP, fl, gp, tab, simprocAttr, reduceCtorEq, reduceIte]
                    refine fin_run ?_ (hK _ ?_) <;> clear hK <;> clear K
                    · (first | exact trivial | omega | (simp only [In64] at *; omega) | (simp [In64] at *; omega) | (simp_all; done) | skip)
                    refine qa (qk (qb (qe (qb (qb (qe (qb (qe (qb (qb (qe (qb ?_))))))))))))
                    simp only [Tryd.results15, enA, ev0, evA, evB, evP, fl, gp, tab, simprocAttr, reduceCtorEq, reduceIte]
                    all_goals (rw [hst (fun hh => hninn fun x hx qx => hh.le x hx qx) hk2, stF_7 hninn]; exact ⟨rfl, rfl, rfl⟩)
                  · (try simp only [nhs] at hC8)
                    exact absurd (ix_out x1 pxf) hC8
              · (try simp only [nhs] at hC7)
                have hjn : j = (thl n q).length := by omega
                have hinn : Inn n p q := fun x hx qx => by
                  obtain ⟨i, i1, i2⟩ := thl_at hx qx
                  have := hj2 i (by omega)
                  rwa [i2, Int.toNat_natCast] at this
                have hka := kix_all hinn
                have ds := dwn_sub2 h hp hq
                rw [hjn, List.take_length, hka]
                refine hk_seal 16 4 rfl rfl ?_
                refine qj (qc (qc (qf (qa (qm ?_)))))
                by_cases hN : Nin n (op m n) e p q
                · have dn := (dwn_nml2 h hp hinn).2 hN
                  have hQuo := quotient_ok hP (dwn n p q) ds dn
                  obtain ⟨φ, d, hQ, hH, hker, hnum⟩ := step_gt h hp hq hinn hN
                  have hmx := hH.mxn_iff G hq hker
                  obtain ⟨cw, hcw⟩ := cwx (cst (thl n p).length (Qr n m e p q)).length (op (qtb (thl n p).length (op (ptb n (op m n) p) (thl n p).length) (Qr n m e p q)) (cst (thl n p).length (Qr n m e p q)).length) d
                  obtain ⟨b, hbs⟩ := truth (SimP (cst (thl n p).length (Qr n m e p q)).length d cw (cst (thl n p).length (Qr n m e p q)).length)
                  have hSim := simple_ok hQ cw hcw b hbs
                  rw [simP_mxn hQ.2.2 cw hcw, ← hmx] at hbs
                  have hqpos := hq.pos G.el
                  have hdiv : (thl n p).length / (thl n q).length = (cst (thl n p).length (Qr n m e p q)).length := by
                    exact Nat.div_eq_of_eq_mul_left (by omega) (by rw [eq']; exact ep.trans hnum.symm)
                  rw [hdiv] at hfs
                  have hKle : (cst (thl n p).length (Qr n m e p q)).length ≤ (thl n p).length := cstp_len _ _ _
                  refine hk_region fun K hK => runs_eval tab_ok ?_
                  simp only [ev0, evA, evB, evP, fl, gp, tab, simprocAttr, reduceCtorEq, reduceIte]
                  refine fin_stop trivial (runs_call (hQuo) rfl rfl rfl (by simp only [dstOk, Nat.reduceLT]) (by repeat (first | exact trivial | constructor)) (runs_eval tab_ok ?_))
                  simp only [ev0, evA, evB, evP, fl, gp, tab, simprocAttr, reduceCtorEq, reduceIte]
                  refine fin_run ?_ (hK _ ?_) <;> clear hK <;> clear K
                  · (first | exact trivial | omega | (simp only [In64] at *; omega) | (simp [In64] at *; omega) | (simp_all; done) | skip)
                  refine qa (qm (qm ?_))
                  refine hk_region fun K hK => runs_eval tab_ok ?_
                  simp only [ev0, evA, evB, evP, fl, gp, tab, simprocAttr, reduceCtorEq, reduceIte]
                  refine fin_run ?_ (hK _ ?_) <;> clear hK <;> clear K
                  · (first | exact trivial | omega | (simp only [In64] at *; omega) | (simp [In64] at *; omega) | (simp_all; done) | skip)
                  refine qa ?_
                  refine hk_cond rfl (fun hC9 => ?_) (fun hC9 => ?_)
                  · cases hC9
                  · (try simp only [nhs] at hC9)
                    refine qh (qa (qm (qm ?_)))
                    refine hk_region fun K hK => runs_eval tab_ok ?_
                    simp only [ev0, evA, evB, evP, fl, gp, tab, simprocAttr, reduceCtorEq, reduceIte]
                    refine fin_stop trivial (runs_call (hSim) rfl rfl rfl (by simp only [dstOk, Nat.reduceLT]) (by repeat (first | exact trivial | constructor)) (runs_eval tab_ok ?_))
                    simp only [ev0, evA, evB, evP, fl, gp, tab, simprocAttr, reduceCtorEq, reduceIte]
                    refine fin_run ?_ (hK _ ?_) <;> clear hK <;> clear K
                    · (first | exact trivial | omega | (simp only [In64] at *; omega) | (simp [In64] at *; omega) | (simp_all; done) | skip)
                    refine qa (qm ?_)
                    refine hk_region fun K hK => runs_eval tab_ok ?_
                    simp only [ev0, evA, evB, evP, fl, gp, tab, simprocAttr, reduceCtorEq, reduceIte]
                    refine fin_run trivial (hK _ ?_) <;> clear hK <;> clear K
                    refine qa ?_
                    refine hk_cond rfl (fun hC10 => ?_) (fun hC10 => ?_)
                    · (try simp only [nhs] at hC10)
                      have hbf : b = false := by simpa using hC10
                      have hno : ¬ Mxn n (op m n) e p q := fun hh => by rw [hbs.2 hh] at hbf; cases hbf
                      refine qm ?_
                      refine hk_region fun K hK => runs_eval tab_ok ?_
                      simp only [ev0, evA, evB, evP, fl, gp, tab, simprocAttr, reduceCtorEq, reduceIte]
                      refine fin_stop ?_ (runs_call (serFault_c 6 ((k : Int) + 1)) rfl rfl rfl (by simp only [dstOk, Nat.reduceLT]) (by repeat (first | exact trivial | constructor)) (runs_eval tab_ok ?_))
                      · (first | exact trivial | omega | (simp only [In64] at *; omega) | (simp [In64] at *; omega) | (simp_all; done) | skip)
                      simp only [ev0, evA, evB, evP, fl, gp, tab, simprocAttr, reduceCtorEq, reduceIte]
                      refine fin_run ?_ (hK _ ?_) <;> clear hK <;> clear K
                      · (first | exact trivial | omega | (simp only [In64] at *; omega) | (simp [In64] at *; omega) | (simp_all; done) | skip)
                      refine qa (qk (qb (qe (qb (qb (qe (qb ?_)))))))
                      simp only [Tryd.results15, enA, ev0, evA, evB, evP, fl, gp, tab, simprocAttr, reduceCtorEq, reduceIte]
                      all_goals (rw [hst hno hk2, stF_6 hinn hN]; exact ⟨rfl, rfl, rfl⟩)
                    · (try simp only [nhs] at hC10)
                      have hbt : b = true := by simpa using hC10
                      have hyes := hbs.1 hbt
                      have hKQ : (((cst (thl n p).length (Qr n m e p q)).length : Nat) : Int) = ((cst (thl n p).length (Go.Proofs.YtjbfkdaodfdpcaaDoor.dco (thl n p).length (op (ptb n (op m n) p) (thl n p).length) (dwn n p q) (onp (pix p e)))).length : Int) := rfl
                      refine qh (qa ?_)
                      refine hk_region fun K hK => runs_eval tab_ok ?_
                      simp only [ev0, evA, evB, evP, fl, gp, tab, simprocAttr, reduceCtorEq, reduceIte]
                      refine fin_run ?_ (hK _ ?_) <;> clear hK <;> clear K
                      · (first | exact trivial | omega | (simp only [In64] at *; omega) | (simp [In64] at *; omega) | (simp_all; done) | skip)
                      refine qd (qa ?_)
                      refine hk_region fun K hK => runs_eval tab_ok ?_
                      simp only [ev0, evA, evB, evP, fl, gp, tab, simprocAttr, reduceCtorEq, reduceIte]
                      refine fin_run ?_ (hK _ ?_) <;> clear hK <;> clear K
                      · (first | exact trivial | omega | (simp only [In64] at *; omega) | (simp [In64] at *; omega) | (simp_all; done) | skip)
                      refine qa ?_
                      refine ⟨k + 1, [0, 1, 8], ⟨by omega, fun j hj => ?_⟩, by omega, ?_⟩
                      · by_cases hjk : j = k
                        · rw [hjk, hpd, hqd]; exact hyes
                        · exact hk2 j (by omega)
                      · rw [hfs, hKQ]
                        simp only [leq, leA, ev0, evA, evB, evP, fl, gp, tab, simprocAttr, reduceCtorEq, reduceIte, ll_length, htk, hdl] <;> first | trivial | omega | (simp only [List.length_append, List.length_cons, List.length_nil]; omega) | exact congrArg ol (List.take_of_length_le (by simp only [List.length_append, List.length_cons, List.length_nil]; omega)).symm | trace_state
                · have hQuo := quotient_w (thl n p).length (ptb n (op m n) p) (thl (thl n p).length (dwn n p q)) (4, 0) (quotN_ok hP (dwn n p q) ds false (by simp [dwn_nml2 h hp hinn, hN])) (by simp)
                  refine hk_region fun K hK => runs_eval tab_ok ?_
                  simp only [ev0, evA, evB, evP, fl, gp, tab, simprocAttr, reduceCtorEq, reduceIte]
                  refine fin_stop trivial (runs_call (hQuo) rfl rfl rfl (by simp only [dstOk, Nat.reduceLT]) (by repeat (first | exact trivial | constructor)) (runs_eval tab_ok ?_))
                  simp only [ev0, evA, evB, evP, fl, gp, tab, simprocAttr, reduceCtorEq, reduceIte]
                  refine fin_run ?_ (hK _ ?_) <;> clear hK <;> clear K
                  · (first | exact trivial | omega | (simp only [In64] at *; omega) | (simp [In64] at *; omega) | (simp_all; done) | skip)
                  refine qa (qm (qm ?_))
                  refine hk_region fun K hK => runs_eval tab_ok ?_
                  simp only [ev0, evA, evB, evP, fl, gp, tab, simprocAttr, reduceCtorEq, reduceIte]
                  refine fin_run ?_ (hK _ ?_) <;> clear hK <;> clear K
                  · (first | exact trivial | omega | (simp only [In64] at *; omega) | (simp [In64] at *; omega) | (simp_all; done) | skip)
                  refine qa ?_
                  refine hk_cond rfl (fun hC9 => ?_) (fun hC9 => ?_)
                  · (try simp only [nhs] at hC9)
                    refine qm ?_
                    refine hk_region fun K hK => runs_eval tab_ok ?_
                    simp only [ev0, evA, evB, evP, fl, gp, tab, simprocAttr, reduceCtorEq, reduceIte]
                    refine fin_stop ?_ (runs_call (serFault_c 4 ((k : Int) + 1)) rfl rfl rfl (by simp only [dstOk, Nat.reduceLT]) (by repeat (first | exact trivial | constructor)) (runs_eval tab_ok ?_))
                    · (first | exact trivial | omega | (simp only [In64] at *; omega) | (simp [In64] at *; omega) | (simp_all; done) | skip)
                    simp only [ev0, evA, evB, evP, fl, gp, tab, simprocAttr, reduceCtorEq, reduceIte]
                    refine fin_run ?_ (hK _ ?_) <;> clear hK <;> clear K
                    · (first | exact trivial | omega | (simp only [In64] at *; omega) | (simp [In64] at *; omega) | (simp_all; done) | skip)
                    refine qa (qk (qb (qe (qb (qb (qe (qb ?_)))))))
                    simp only [Tryd.results15, enA, ev0, evA, evB, evP, fl, gp, tab, simprocAttr, reduceCtorEq, reduceIte]
                    all_goals (rw [hst (fun hh => hN fun a x ha hx pa qx => hh.nml a x ha hx pa qx) hk2, stF_4 hinn hN]; exact ⟨rfl, rfl, rfl⟩)
                  · cases hC9
            · (try simp only [nhs] at hC6)
              have hkl : k = ls.length - 1 := by omega
              have hsort := sortI_m Go.Proofs.Tryd.sortI (facL ls k) (by omega)
              have hsp := fsp_ok ho fun j hj => hk2 j (by omega)
              refine qj (qc (qc (qf (qa (qm ?_)))))
              refine hk_region fun K hK => runs_eval tab_ok ?_
              simp only [ev0, evA, evB, evP, fl, gp, tab, simprocAttr, reduceCtorEq, reduceIte]
              refine fin_stop ?_ (runs_callM [2] (hsort) rfl rfl ?_ (by simp only [leA, ev0, evA, evB, evP, fl, gp, tab, simprocAttr, reduceCtorEq, reduceIte]; first | trivial | (simp only [ll_takeL]; first | trivial | (repeat constructor; done)) | (repeat constructor)) (by decide) (by first | rfl | (simp only [List.length_cons, List.length_nil, List.length_append]; decide)) (by first | rfl | (simp only [scM, opl_sc, List.all_cons, List.all_nil, List.length_cons, List.length_nil]; first | rfl | decide) | (simp [scM, scA, sc1, mpKeep, notAnc]; done)) (by simp only [dstOk, Nat.reduceLT]) (runs_eval tab_ok ?_))
              · (first | exact trivial | omega | (simp only [In64] at *; omega) | (simp [In64] at *; omega) | (simp_all; done) | skip)
              · (simp only [argsM, argM1, peekG, peekS, scA, sc1, ren, ren1, List.map_cons, List.map_nil, List.append_nil, List.cons_append, List.nil_append, enA, ev0, evA, evB, evP, fl, gp, tab, simprocAttr, reduceCtorEq, reduceIte]; try trivial)
              simp only [putM, hset, List.range', Blk.ren, ren, ren1, List.map_cons, List.map_nil, List.cons_append, List.nil_append, List.append_nil, List.length_cons, List.length_nil, ev0, evA, evB, evP, fl, gp, tab, simprocAttr, reduceCtorEq, reduceIte]
              refine fin_run trivial (hK _ ?_) <;> clear hK <;> clear K
              refine qa (qm ?_)
              refine hk_region fun K hK => runs_eval tab_ok ?_
              simp only [ev0, evA, evB, evP, fl, gp, tab, simprocAttr, reduceCtorEq, reduceIte]
              refine fin_run ?_ (hK _ ?_) <;> clear hK <;> clear K
              · (first | exact trivial | omega | (simp only [In64] at *; omega) | (simp [In64] at *; omega) | (simp_all; done) | skip)
              refine qa (qk ?_)
              simp only [Tryd.results15, enA, ev0, evA, evB, evP, fl, gp, tab, simprocAttr, reduceCtorEq, reduceIte]
              all_goals (rw [hsp, List.take_of_length_le (by rw [srt_len]; exact Nat.le_refl _), hkl, srt_len]; exact ⟨Nat.le_refl _, rfl, rfl, rfl⟩)
      · refine hk_draw mixed (by kernel_rfl) fun K hK => runs_eval tab_ok ?_
        simp only [ev0, evA, evB, evP, fl, gp, tab, simprocAttr, reduceCtorEq, reduceIte, ll_length, hl0, il_length, decide_eq_false (show ¬ (((ls.getD 0 []).length : Nat) : Int) = (n : Int) by omega)]
        refine fin_run ?_ (hK _ ?_) <;> clear hK <;> clear K
        · (first | exact trivial | omega | (simp only [In64] at *; omega) | (simp [In64] at *; omega) | (simp_all; done) | skip)
        refine qa ?_
        refine hk_cond rfl (fun hC3 => ?_) (fun hC3 => ?_)
        · have hsz := fsp_size (f := op m n) (e := e) hw (.inl k6)
          refine qm ?_
          refine hk_region fun K hK => runs_eval tab_ok ?_
          simp only [ev0, evA, evB, evP, fl, gp, tab, simprocAttr, reduceCtorEq, reduceIte]
          refine fin_stop trivial (runs_call (serFault_c 8 0) rfl rfl rfl (by simp only [dstOk, Nat.reduceLT]) (by repeat (first | exact trivial | constructor)) (runs_eval tab_ok ?_))
          simp only [ev0, evA, evB, evP, fl, gp, tab, simprocAttr, reduceCtorEq, reduceIte]
          refine fin_run ?_ (hK _ ?_) <;> clear hK <;> clear K
          · (first | exact trivial | omega | (simp only [In64] at *; omega) | (simp [In64] at *; omega) | (simp_all; done) | skip)
          refine qa (qk (qb ?_))
          simp only [Tryd.results15, enA, ev0, evA, evB, evP, fl, gp, tab, simprocAttr, reduceCtorEq, reduceIte]
          all_goals (rw [hsz]; exact ⟨rfl, rfl, rfl⟩)
        · cases hC3
theorem factors_many (h : GT n m n e) (ls : List (List Int)) (hw : ls.length < 1 ∨ 10 < ls.length) (hl : ls.length ≤ 1000000000) : FnC Tryd.prog 15 [gp n m, .list (ll ls)] (.tup [.list (il (fsp n (op m n) e ls).1), fl (fsp n (op m n) e ls).2]) := by
  have hb := h.2.1.big
  have hml := h.2.1.len
  have hsq := sq_le hb
  rw [fsp_many hw]
  refine fnc_of tab_ok Tryd.func15 rfl (by kernel_rfl) (by rw [Tryd.ntmps15]; exact Nat.le_add_left 2 _) ?_; rw [Tryd.ntmps15]
  refine qm ?_
  refine hk_region fun K hK => runs_eval tab_ok ?_
  simp only [ev0, evA, evB, evP, fl, gp, tab, simprocAttr, reduceCtorEq, reduceIte]
  refine fin_run ?_ (hK _ ?_) <;> clear hK <;> clear K
  · (first | exact trivial | omega | (simp only [In64] at *; omega) | (simp [In64] at *; omega) | (simp_all; done) | skip)
  refine qa (qm (qm ?_))
  refine hk_region fun K hK => runs_eval tab_ok ?_
  simp only [ev0, evA, evB, evP, fl, gp, tab, simprocAttr, reduceCtorEq, reduceIte]
  refine fin_stop trivial (runs_call (check_c n m (by omega)) rfl rfl rfl (by simp only [dstOk, Nat.reduceLT]) (by repeat (first | exact trivial | constructor)) (runs_eval tab_ok ?_))
  simp only [ev0, evA, evB, evP, fl, gp, tab, simprocAttr, reduceCtorEq, reduceIte, gf_of h]
  refine fin_run ?_ (hK _ ?_) <;> clear hK <;> clear K
  · (first | exact trivial | omega | (simp only [In64] at *; omega) | (simp [In64] at *; omega) | (simp_all; done) | skip)
  refine qa (qm ?_)
  refine hk_region fun K hK => runs_eval tab_ok ?_
  simp only [ev0, evA, evB, evP, fl, gp, tab, simprocAttr, reduceCtorEq, reduceIte]
  refine fin_run ?_ (hK _ ?_) <;> clear hK <;> clear K
  · (first | exact trivial | omega | (simp only [In64] at *; omega) | (simp [In64] at *; omega) | (simp_all; done) | skip)
  refine qa ?_
  refine hk_cond rfl (fun hC1 => ?_) (fun hC1 => ?_)
  · cases hC1
  · (try simp only [nhs] at hC1)
    refine qh (qa (qm (qm ?_)))
    by_cases k4 : ls.length < 1
    · refine hk_region fun K hK => runs_eval tab_ok ?_
      simp only [ev0, evA, evB, evP, fl, gp, tab, simprocAttr, reduceCtorEq, reduceIte, ll_length, decide_eq_true (show ((ls.length : Nat) : Int) < 1 by omega)]
      refine fin_run trivial (hK _ ?_) <;> clear hK <;> clear K
      refine qa ?_
      refine hk_cond rfl (fun hC2 => ?_) (fun hC2 => ?_)
      · refine qm ?_
        refine hk_region fun K hK => runs_eval tab_ok ?_
        simp only [ev0, evA, evB, evP, fl, gp, tab, simprocAttr, reduceCtorEq, reduceIte]
        refine fin_stop trivial (runs_call (serFault_c 2 0) rfl rfl rfl (by simp only [dstOk, Nat.reduceLT]) (by repeat (first | exact trivial | constructor)) (runs_eval tab_ok ?_))
        simp only [ev0, evA, evB, evP, fl, gp, tab, simprocAttr, reduceCtorEq, reduceIte]
        refine fin_run ?_ (hK _ ?_) <;> clear hK <;> clear K
        · (first | exact trivial | omega | (simp only [In64] at *; omega) | (simp [In64] at *; omega) | (simp_all; done) | skip)
        refine qa (qk (qb ?_))
        simp only [Tryd.results15, enA, ev0, evA, evB, evP, fl, gp, tab, simprocAttr, reduceCtorEq, reduceIte]
        all_goals (simp [il])
      · cases hC2
    · refine hk_region fun K hK => runs_eval tab_ok ?_
      simp only [ev0, evA, evB, evP, fl, gp, tab, simprocAttr, reduceCtorEq, reduceIte, ll_length, decide_eq_false (show ¬ ((ls.length : Nat) : Int) < 1 by omega)]
      refine fin_run trivial (hK _ ?_) <;> clear hK <;> clear K
      refine qa ?_
      refine hk_cond rfl (fun hC2 => ?_) (fun hC2 => ?_)
      · (try simp only [nhs] at hC2)
        refine qm ?_
        refine hk_region fun K hK => runs_eval tab_ok ?_
        simp only [ev0, evA, evB, evP, fl, gp, tab, simprocAttr, reduceCtorEq, reduceIte]
        refine fin_stop trivial (runs_call (serFault_c 2 0) rfl rfl rfl (by simp only [dstOk, Nat.reduceLT]) (by repeat (first | exact trivial | constructor)) (runs_eval tab_ok ?_))
        simp only [ev0, evA, evB, evP, fl, gp, tab, simprocAttr, reduceCtorEq, reduceIte]
        refine fin_run ?_ (hK _ ?_) <;> clear hK <;> clear K
        · (first | exact trivial | omega | (simp only [In64] at *; omega) | (simp [In64] at *; omega) | (simp_all; done) | skip)
        refine qa (qk (qb ?_))
        simp only [Tryd.results15, enA, ev0, evA, evB, evP, fl, gp, tab, simprocAttr, reduceCtorEq, reduceIte]
        all_goals (simp [il])
      · (try simp only [nhs] at hC2)
        omega
theorem factors_no (N : Int) (m : List Int) (ls : List (List Int)) (hm : m.length ≤ 1000000000000000) (hf : ¬ (gf N m).1 = 0) : FnC Tryd.prog 15 [gp N m, .list (ll ls)] (.tup [.list [], fl (gf N m)]) := by
  refine fnc_of tab_ok Tryd.func15 rfl (by kernel_rfl) (by rw [Tryd.ntmps15]; exact Nat.le_add_left 2 _) ?_; rw [Tryd.ntmps15]
  refine qm ?_
  refine hk_region fun K hK => runs_eval tab_ok ?_
  simp only [ev0, evA, evB, evP, fl, gp, tab, simprocAttr, reduceCtorEq, reduceIte]
  refine fin_run ?_ (hK _ ?_) <;> clear hK <;> clear K
  · (first | exact trivial | omega | (simp only [In64] at *; omega) | (simp [In64] at *; omega) | (simp_all; done) | skip)
  refine qa (qm (qm ?_))
  refine hk_region fun K hK => runs_eval tab_ok ?_
  simp only [ev0, evA, evB, evP, fl, gp, tab, simprocAttr, reduceCtorEq, reduceIte]
  refine fin_stop trivial (runs_call (check_c N m hm) rfl rfl rfl (by simp only [dstOk, Nat.reduceLT]) (by repeat (first | exact trivial | constructor)) (runs_eval tab_ok ?_))
  simp only [ev0, evA, evB, evP, fl, gp, tab, simprocAttr, reduceCtorEq, reduceIte]
  refine fin_run ?_ (hK _ ?_) <;> clear hK <;> clear K
  · (first | exact trivial | omega | (simp only [In64] at *; omega) | (simp [In64] at *; omega) | (simp_all; done) | skip)
  refine qa (qm ?_)
  refine hk_region fun K hK => runs_eval tab_ok ?_
  simp only [ev0, evA, evB, evP, fl, gp, tab, simprocAttr, reduceCtorEq, reduceIte]
  refine fin_run ?_ (hK _ ?_) <;> clear hK <;> clear K
  · (first | exact trivial | omega | (simp only [In64] at *; omega) | (simp [In64] at *; omega) | (simp_all; done) | skip)
  refine qa ?_
  refine hk_cond rfl (fun hC1 => ?_) (fun hC1 => ?_)
  · (try simp only [nhs] at hC1)
    refine qm ?_
    refine hk_draw mixed (by kernel_rfl) fun K hK => runs_eval tab_ok ?_
    simp only [ev0, evA, evB, evP, fl, gp, tab, simprocAttr, reduceCtorEq, reduceIte]
    refine fin_run ?_ (hK _ ?_) <;> clear hK <;> clear K
    · (first | exact trivial | omega | (simp only [In64] at *; omega) | (simp [In64] at *; omega) | (simp_all; done) | skip)
    refine qa (qk (qb ?_))
    simp only [Tryd.results15, enA, ev0, evA, evB, evP, fl, gp, tab, simprocAttr, reduceCtorEq, reduceIte]
    all_goals (simp [ll])
  · (try simp only [nhs] at hC1)
    exact absurd hC1 hf
end
end Go.Proofs.YtjbfkdaodfdpcaaDoor

/-
  Arguments of a law, opened: rows of rows of numbers. Conditions: none; a library text.
-/
set_option linter.all false
namespace Go.Pv
open Go.RowKit Go.ChangeShapes Go.WideShapes Go.ChangeAt

section
variable {H : Type} {enc : TypeId × Value → H} {P : Program}
theorem weightsAll_mem {e : TypeId} {f : Nat → Bool} : ∀ {l : List (DataW H)}, (DataW.weightsAll P e l).all f = true → ∀ d ∈ l, (d.weights P e).all f = true
  | [], _, d, hd => by simp at hd
  | x :: r, h, d, hd => by
    simp only [DataW.weightsAll, List.all_append, Bool.and_eq_true] at h
    rcases List.mem_cons.1 hd with rfl | hd
    · exact h.1
    · exact weightsAll_mem h.2 d hd

theorem wcells_one {W : World} {base : Nat} {a : Addr} {u : Value} (h : W.cells? base a 1 = some [u]) : W.cell? a = some u := by
  unfold World.cells? at h
  split at h
  · simp only [List.range_succ, List.range_zero, List.nil_append, List.mapM_cons, List.mapM_nil, Option.bind_eq_bind, Option.pure_def, Option.bind_eq_some_iff] at h
    obtain ⟨v, hv, l, hl, e⟩ := h
    simp only [Option.some.injEq] at hl e
    subst hl
    simp only [List.cons.injEq, and_true] at e
    subst e
    have : a.add 0 = a := by cases a; simp [Addr.add]
    rwa [this] at hv
  · cases h

theorem open_ll {t e ti : TypeId} {W : World} {base : Nat} {v : Value} {d : DataW H} {p : List MemPlace} (ht : P.underlying t = some (.slice e)) (he : P.underlying e = some (.slice ti)) (hti : P.underlying ti = some (.int .i64)) (hce : P.cellsOf e = 1) (hc : P.cellsOf ti = 1)
    (hbe : P.bytesOf e = 24) (hby : P.bytesOf ti = 8) (hval : Value.okWide P W .any base t v) (h : DataW.Trod enc P W 0 (fun _ => true) true t v d p) (hw : (d.weights P t).all (· ≤ reachBytes) = true) :
    ∃ ls : List (List Int), (∀ w ∈ ls, w.length ≤ 17592186043904) ∧ ls.length ≤ 17592186043904 ∧ Reads (fun b => b < W.heap.size) W (.list (ll ls)) v := by
  obtain ⟨a0, len0, cap0, rfl⟩ := okWide_slice ht hval
  obtain ⟨fuel, hf⟩ := h
  rcases DataW.trod_slice ht hf with ⟨hcs, hx⟩ | ⟨a, len, cap, elems, rest, n, _, hcs, hx, hb, hle, hmax, hlen, hel, _, _⟩
  · simp [Value.cells] at hcs
    obtain ⟨rfl, rfl, rfl⟩ := hcs
    exact ⟨[], fun x hx => by simp at hx, Nat.zero_le _, .list0 none 0 fun _ => rfl⟩
  · simp [Value.cells] at hcs
    obtain ⟨rfl, rfl, rfl⟩ := hcs
    simp only [Prod.mk.injEq] at hx
    obtain ⟨rfl, rfl⟩ := hx
    simp only [DataW.weights, ht, hbe, List.all_cons, List.all_append, Bool.and_eq_true, decide_eq_true_eq, List.length_map] at hw
    obtain ⟨hw1, hw2, _⟩ := hw
    unfold reachBytes at hw1
    have each : ∀ i, ∃ xs : List Int, ∃ u : Value, i < len0 → W.cell? (a.add i) = some u ∧ xs.length ≤ 17592186043904 ∧ Reads (fun b => b < W.heap.size) W (.list (il xs)) u := by
      intro i
      by_cases hi : i < len0
      · have h1 := hel i hi
        rw [hce, Nat.mul_one, List.getElem?_eq_getElem (show i < elems.length by omega)] at h1
        obtain ⟨cs, hcs, htr⟩ := Option.bind_eq_some_iff.1 h1
        have hwi := weightsAll_mem hw2 (elems[i]'(by omega)).1 (List.mem_map.2 ⟨_, List.getElem_mem _, rfl⟩)
        obtain ⟨xs, u, rfl, _, g2, g3⟩ := il_of_trod he hti hc hby htr hwi
        exact ⟨xs, u, fun _ => ⟨wcells_one hcs, g2, g3⟩⟩
      · exact ⟨[], undef, fun h => absurd h hi⟩
    obtain ⟨fx, hfx⟩ := Classical.skolem.1 each
    obtain ⟨fu, hfu⟩ := Classical.skolem.1 hfx
    refine ⟨(List.range len0).map fx, fun w hw => ?_, by rw [List.length_map, List.length_range]; omega, ?_⟩
    · obtain ⟨i, hi, rfl⟩ := List.mem_map.1 hw
      exact (hfu i (List.mem_range.1 hi)).2.1
    · have hlen' : (ll ((List.range len0).map fx)).length = len0 := by rw [ll_length, List.length_map, List.length_range]
      by_cases h0 : len0 = 0
      · subst h0
        exact .list0 _ _ fun h => by cases h
      · obtain ⟨b, off, spot⟩ := a
        have hspot : spot = none := by simpa [Addr.add] using World.cell?_spot (hfu 0 (by omega)).1
        subst hspot
        have hone : ∀ x ∈ ll ((List.range len0).map fx), x.cells.length = 1 := by
          intro x hx
          obtain ⟨y, _, rfl⟩ := List.mem_map.1 hx
          rfl
        have hfl : flat (ll ((List.range len0).map fx)) = ll ((List.range len0).map fx) := flat_all_one (ll_all _)
        have hcell' : ∀ c, c < len0 → W.cell? ⟨b, off + c, none⟩ = some (fu c) := fun c hc => by rw [← Go.WideShapes.add_plain]; exact (hfu c hc).1
        have := Reads.list (ok := fun b => b < W.heap.size) (w := W) (ll ((List.range len0).map fx)) b off cap0 1 fu ?_ hone (by rw [hlen']; exact hle) (fun c hcl => ?_) (fun c hcl => ?_)
        · rwa [hlen'] at this
        · have := hcell' 0 (by omega)
          simp only [World.cell?] at this
          by_cases hb : b < W.heap.size
          · exact hb
          · rw [Array.getElem?_eq_none (by omega)] at this
            simp at this
        · rw [hfl, hlen'] at hcl
          exact hcell' c hcl
        · simp only [hfl]
          have hcl2 : c < len0 := by rw [hfl, hlen'] at hcl; exact hcl
          have e : (ll ((List.range len0).map fx))[c]'(by rw [hlen']; exact hcl2) = .list (il (fx c)) := by
            simp [ll]
          rw [e]
          exact (hfu c hcl2).2.2
end
end Go.Pv

/-
  Walks: the law SeriesJordan. Conditions: none.
-/
set_option linter.all false
namespace Go.Proofs.YtjbfkdaodfdpcaaDoor
open Go.Pv

section
variable {n e : Nat} {f : Nat → Nat → Nat}
/-- The chain that a list of sets tells. -/
def tlc (T : Nat → Nat → Bool) (i : Nat) : Nat → List (Nat → Bool)
  | 0 => []
  | k + 1 => T (i + 1) :: tlc T (i + 1) k
theorem tlc_chn {T : Nat → Nat → Bool} : ∀ (k i : Nat), (∀ j, i ≤ j → j < i + k → Mxn n f e (T j) (T (j + 1))) → (∀ x, x < n → T (i + k) x = true → x = e) → Chn n f e (T i) (tlc T i k)
  | 0, i, _, h => h
  | k + 1, i, hm, h => ⟨hm i (Nat.le_refl _) (by omega), tlc_chn k (i + 1) (fun j h1 h2 => hm j (by omega) (by omega)) fun x hx hh => h x hx (by rwa [show i + (k + 1) = i + 1 + k by omega])⟩
theorem tlc_idx (T : Nat → Nat → Bool) : ∀ (k i : Nat), (idx n (T i) (tlc T i k)) = (List.range k).map fun j => (mem n (T (i + j))).length / (mem n (T (i + j + 1))).length
  | 0, i => rfl
  | k + 1, i => by
    show _ :: idx n (T (i + 1)) (tlc T (i + 1) k) = _
    rw [tlc_idx T k (i + 1), List.range_succ_eq_map, List.map_cons, List.map_map]
    congr 1
    refine List.map_congr_left fun j _ => ?_
    show _ = (mem n (T (i + (j + 1)))).length / (mem n (T (i + (j + 1) + 1))).length
    rw [show i + 1 + j = i + (j + 1) by omega]
theorem tlc_len (T : Nat → Nat → Bool) : ∀ (k i : Nat), (tlc T i k).length = k
  | 0, _ => rfl
  | k + 1, i => by show (tlc T (i + 1) k).length + 1 = _; rw [tlc_len T k]
/-- What a list of sets without a fault tells: a chain; its factors. -/
theorem fsp_chn (G : Grp n f e) {ls : List (List Int)} (h : (fsp n f e ls).2.1 = 0) : Chn n f e (fun _ => true) (tlc (tsl ls) 0 (ls.length - 1)) ∧ (fsp n f e ls) = (srt ((idx n (fun _ => true) (tlc (tsl ls) 0 (ls.length - 1))).map fun (k : Nat) => (k : Int)), (0, 0)) := by
  obtain ⟨ho, hm⟩ := fsp_good h
  have hlo := ho.lo
  have h0 : ∀ x, x < n → tsl ls 0 x = true := by
    obtain ⟨h1, h2⟩ := okR_row G (ho.ok 0 (by omega))
    have h3 := ho.first
    rw [h1, thl_len] at h3
    have : (mem n (tsl ls 0)).length = n := by
      have e1 : (thl n (tsl ls 0)).length = (mem n (tsl ls 0)).length := thl_len _ _
      rw [← e1, thl_len]; exact h3
    exact mem_all.1 this
  have hrow : ∀ i, i < ls.length → (ls.getD i []).length = (mem n (tsl ls i)).length := fun i hi => by
    obtain ⟨h1, h2⟩ := okR_row G (ho.ok i hi)
    have e1 : (thl n (tsl ls i)).length = (mem n (tsl ls i)).length := thl_len _ _
    rw [h1]; exact e1
  have hsubZ : Sub n f e (tsl ls (ls.length - 1)) := (okR_row G (ho.ok (ls.length - 1) (by omega))).2
  have hlast : ∀ x, x < n → tsl ls (0 + (ls.length - 1)) x = true → x = e := fun x hx hh => by
    rw [Nat.zero_add] at hh
    refine one_mem G.el hsubZ.one ?_ hx hh
    rw [← hrow _ (by omega)]; exact ho.last
  have hc := tlc_chn (n := n) (f := f) (e := e) (T := tsl ls) (ls.length - 1) 0 (fun j _ h2 => hm j (by omega)) hlast
  obtain ⟨c1, c2⟩ := Chn.congr (p' := fun _ => true) (fun x hx => (h0 x hx).symm) hc
  refine ⟨c1, ?_⟩
  rw [fsp_ok ho hm, c2, tlc_idx, List.map_map]
  congr 2
  unfold facL
  refine List.map_congr_left fun j hj => ?_
  have hjl := List.mem_range.1 hj
  show _ = (((mem n (tsl ls (0 + j))).length / (mem n (tsl ls (0 + j + 1))).length : Nat) : Int)
  rw [Nat.zero_add, hrow j (by omega), hrow (j + 1) (by omega)]
/-- A composition series has no fault. -/
theorem cps_fsp (G : Grp n f e) {T : Nat → Nat → Bool} {Z : Nat} (hC : Cps n f e T Z) : (fsp n f e (cht n T Z)).2.1 = 0 := by
  have hlen := cht_len n T Z
  have hg : ∀ i, i ≤ Z → (cht n T Z).getD i [] = thl n (T i) := fun i hi => cht_get hi
  have hZ := hC.short
  have hts : ∀ i, i ≤ Z → tsl (cht n T Z) i = tst (thl n (T i)) := fun i hi => by unfold tsl; rw [hg i hi]
  have ho : Fo n f e (cht n T Z) := by
    refine ⟨⟨⟨by omega, by omega⟩, ?_, ?_⟩, fun i hi => ?_⟩
    · rw [hg 0 (Nat.zero_le _), hC.all]
      have e1 : (thl n fun _ => true).length = (mem n fun _ => true).length := thl_len _ _
      rw [e1, mem_true]
    · rw [hlen, Nat.add_sub_cancel, hg Z (Nat.le_refl _)]; exact hC.last
    · rw [hg i (by omega)]; exact (okR_thl G).2 (hC.sub i (by omega))
  have hm : ∀ j, j < (cht n T Z).length - 1 → Mxn n f e (tsl (cht n T Z) j) (tsl (cht n T Z) (j + 1)) := fun j hj => by
    have hjZ : j < Z := by omega
    rw [hts j (by omega), hts (j + 1) (by omega)]
    have hM := hC.mxn j hjZ
    have hsub : Sub n f e (tst (thl n (T (j + 1)))) := by
      have := (okR_row G (ho.ok (j + 1) (by omega))).2
      rwa [hg (j + 1) (by omega)] at this
    exact (hM.congr_r G hsub fun x hx => tst_thlF hx).congr_l fun x hx => tst_thlF hx
  rw [fsp_ok ho hm]
theorem jordan_fsp (G : Grp n f e) {ls ls' : List (List Int)} (h : (fsp n f e ls).2.1 = 0) (h' : (fsp n f e ls').2.1 = 0) : (fsp n f e ls).1 = (fsp n f e ls').1 ∧ ls.length = ls'.length := by
  obtain ⟨c1, c2⟩ := fsp_chn G h
  obtain ⟨d1, d2⟩ := fsp_chn G h'
  have hp := jordan G _ _ _ _ G.all_sub (Nat.le_refl _) c1 d1
  have hl := hp.length_eq
  have e1 : ∀ (p : Nat → Bool) (l : List (Nat → Bool)), (idx n p l).length = l.length := by
    intro p l
    induction l generalizing p with
    | nil => rfl
    | cons q l ih => show (idx n q l).length + 1 = _; rw [ih]; rfl
  rw [e1, e1, tlc_len, tlc_len] at hl
  refine ⟨?_, by have := (fsp_good h).1.lo; have := (fsp_good h').1.lo; omega⟩
  rw [c2, d2]
  exact srt_of ((srt_perm _).trans (hp.map _)) (srt_rise _)
theorem fsp_prod (G : Grp n f e) {ls : List (List Int)} (h : (fsp n f e ls).2.1 = 0) : (fsp n f e ls).1.foldl (· * ·) 1 = (n : Int) := by
  obtain ⟨c1, c2⟩ := fsp_chn G h
  have hp := Chn.prod G G.all_sub c1
  rw [mem_true] at hp
  rw [c2]
  have key : ∀ (l : List Nat) (c : Nat), (l.map fun (k : Nat) => (k : Int)).foldl (· * ·) (c : Int) = ((l.foldl (· * ·) c : Nat) : Int) := by
    intro l
    induction l with
    | nil => intro c; rfl
    | cons x l ih => intro c; show (l.map _).foldl _ ((c : Int) * (x : Int)) = _; rw [← Int.natCast_mul, ih]; rfl
  have h1 := key (idx n (fun _ => true) (tlc (tsl ls) 0 (ls.length - 1))) 1
  rw [hp] at h1
  rw [← h1]
  exact (srt_perm _).foldl_eq' (fun x _ y _ z => by rw [Int.mul_assoc, Int.mul_assoc, Int.mul_comm x y]) 1
end
section
variable {n e : Nat} {m : List Int}
theorem fac_bnd (G : Grp n (op m n) e) (hb : n ≤ 60) {ls : List (List Int)} (h : (fsp n (op m n) e ls).2.1 = 0) : ∀ j, j ≤ (fsp n (op m n) e ls).1.length → 1 ≤ ((fsp n (op m n) e ls).1.take j).foldl (· * ·) 1 ∧ ((fsp n (op m n) e ls).1.take j).foldl (· * ·) 1 ≤ 60 := by
  have hpos : ∀ x ∈ (fsp n (op m n) e ls).1, 1 ≤ x := fun x hx => by
    obtain ⟨c1, c2⟩ := fsp_chn G h
    rw [c2] at hx
    have hx2 := (srt_perm _).mem_iff.1 hx
    obtain ⟨k, hk, rfl⟩ := List.mem_map.1 hx2
    have key : ∀ (l : List (Nat → Bool)) (p : Nat → Bool), Sub n (op m n) e p → Chn n (op m n) e p l → ∀ k ∈ idx n p l, 1 ≤ k := by
      intro l
      induction l with
      | nil => intro p _ _ k hk; simp [idx] at hk
      | cons q l ih =>
        intro p hp hc k hk
        rcases List.mem_cons.1 hk with rfl | hk
        · have h1 := hc.1.le_len G hp
          have h2 := hp.pos G.el
          refine Nat.one_le_iff_ne_zero.2 fun h0 => ?_
          rw [h0] at h1; omega
        · exact ih q hc.1.sub hc.2 k hk
    have := key _ _ G.all_sub c1 k hk
    omega
  have hprod := fsp_prod G h
  generalize (fsp n (op m n) e ls).1 = l at *
  have hge : ∀ (l : List Int) (c : Int), 1 ≤ c → (∀ x ∈ l, 1 ≤ x) → c ≤ l.foldl (· * ·) c := by
    intro l
    induction l with
    | nil => intro c _ _; exact Int.le_refl _
    | cons x l ih =>
      intro c hc hx
      have h1 := hx x (by simp)
      have h2 : c * 1 ≤ c * x := Int.mul_le_mul_of_nonneg_left h1 (by omega)
      have := ih (c * x) (by omega) fun y hy => hx y (by simp [hy])
      show c ≤ l.foldl _ (c * x)
      omega
  intro j hj
  have h1 := hge (l.take j) 1 (Int.le_refl _) fun x hx => hpos x (List.mem_of_mem_take hx)
  refine ⟨h1, ?_⟩
  have h2 := hge (l.drop j) _ h1 fun x hx => hpos x (List.mem_of_mem_drop hx)
  rw [← List.foldl_append, List.take_append_drop, hprod] at h2
  omega
theorem take_fold {l : List Int} {j : Nat} (hj : j < l.length) : (l.take (j + 1)).foldl (· * ·) 1 = (l.take j).foldl (· * ·) 1 * l.getD j 0 := by
  rw [List.take_succ_eq_append_getElem hj, List.foldl_append]
  simp [List.getD, List.getElem?_eq_getElem hj]

theorem lawJor_bad (N : Int) (m : List Int) (ls : List (List Int)) (r : List Int) (w : Int × Int) (hl : ls.length ≤ 100) (hw : ¬ w.1 = 0)
    (h1 : FnC Tryd.prog 15 [gp N m, .list (ll ls)] (.tup [.list (il r), fl w])) : FnC Tryd.prog 4 [gp N m, .list (ll ls)] (.bool true) := by
  refine fnc_of tab_ok Tryd.func4 rfl (by kernel_rfl) (by rw [Tryd.ntmps4]; exact Nat.le_add_left 2 _) ?_; rw [Tryd.ntmps4]
  refine qm ?_
  refine hk_region fun K hK => runs_eval tab_ok ?_
  simp only [ev0, evA, evB, evP, fl, gp, tab, simprocAttr, reduceCtorEq, reduceIte]
  refine fin_run ?_ (hK _ ?_) <;> clear hK <;> clear K
  · (first | exact trivial | omega | (simp only [In64] at *; omega) | (simp [In64] at *; omega) | (simp_all; done) | skip)
  refine qa (qm (qm ?_))
  refine hk_region fun K hK => runs_eval tab_ok ?_
  simp only [ev0, evA, evB, evP, fl, gp, tab, simprocAttr, reduceCtorEq, reduceIte]
  refine fin_stop trivial (runs_call (seriesBegun_c) rfl rfl rfl (by simp only [dstOk, Nat.reduceLT]) (by repeat (first | exact trivial | constructor)) (runs_eval tab_ok ?_))
  simp only [ev0, evA, evB, evP, fl, gp, tab, simprocAttr, reduceCtorEq, reduceIte]
  refine fin_run trivial (hK _ ?_) <;> clear hK <;> clear K
  refine qa ?_
  refine hk_cond rfl (fun hC1 => ?_) (fun hC1 => ?_)
  · cases hC1
  · (try simp only [nhs] at hC1)
    refine qh (qa (qm (qm ?_)))
    refine hk_region fun K hK => runs_eval tab_ok ?_
    simp only [ev0, evA, evB, evP, fl, gp, tab, simprocAttr, reduceCtorEq, reduceIte, ll_length]
    refine fin_run trivial (hK _ ?_) <;> clear hK <;> clear K
    refine qa ?_
    refine hk_cond rfl (fun hC2 => ?_) (fun hC2 => ?_)
    · (try simp only [nhs] at hC2)
      omega
    · (try simp only [nhs] at hC2)
      refine qh (qa (qm ?_))
      refine hk_region fun K hK => runs_eval tab_ok ?_
      simp only [ev0, evA, evB, evP, fl, gp, tab, simprocAttr, reduceCtorEq, reduceIte]
      refine fin_stop trivial (runs_call (h1) rfl rfl rfl (by simp only [dstOk, Nat.reduceLT]) (by repeat (first | exact trivial | constructor)) (runs_eval tab_ok ?_))
      simp only [ev0, evA, evB, evP, fl, gp, tab, simprocAttr, reduceCtorEq, reduceIte]
      refine fin_run ?_ (hK _ ?_) <;> clear hK <;> clear K
      · (first | exact trivial | omega | (simp only [In64] at *; omega) | (simp [In64] at *; omega) | (simp_all; done) | skip)
      refine qa (qm (qm ?_))
      refine hk_region fun K hK => runs_eval tab_ok ?_
      simp only [ev0, evA, evB, evP, fl, gp, tab, simprocAttr, reduceCtorEq, reduceIte]
      refine fin_run ?_ (hK _ ?_) <;> clear hK <;> clear K
      · (first | exact trivial | omega | (simp only [In64] at *; omega) | (simp [In64] at *; omega) | (simp_all; done) | skip)
      refine qa ?_
      refine hk_cond rfl (fun hC3 => ?_) (fun hC3 => ?_)
      · (try simp only [nhs] at hC3)
        refine qm ?_
        refine hk_region fun K hK => runs_eval tab_ok ?_
        simp only [ev0, evA, evB, evP, fl, gp, tab, simprocAttr, reduceCtorEq, reduceIte]
        refine fin_run trivial (hK _ ?_) <;> clear hK <;> clear K
        refine qa (qk (qb ?_))
        simp only [Tryd.results4, enA, ev0, evA, evB, evP, fl, gp, tab, simprocAttr, reduceCtorEq, reduceIte]
        all_goals (rfl)
      · (try simp only [nhs] at hC3)
        exact absurd hC3 hw
theorem lawJor_big (N : Int) (m : List Int) (ls : List (List Int)) (hl : ¬ ls.length ≤ 100) : FnC Tryd.prog 4 [gp N m, .list (ll ls)] (.bool true) := by
  refine fnc_of tab_ok Tryd.func4 rfl (by kernel_rfl) (by rw [Tryd.ntmps4]; exact Nat.le_add_left 2 _) ?_; rw [Tryd.ntmps4]
  refine qm ?_
  refine hk_region fun K hK => runs_eval tab_ok ?_
  simp only [ev0, evA, evB, evP, fl, gp, tab, simprocAttr, reduceCtorEq, reduceIte]
  refine fin_run ?_ (hK _ ?_) <;> clear hK <;> clear K
  · (first | exact trivial | omega | (simp only [In64] at *; omega) | (simp [In64] at *; omega) | (simp_all; done) | skip)
  refine qa (qm (qm ?_))
  refine hk_region fun K hK => runs_eval tab_ok ?_
  simp only [ev0, evA, evB, evP, fl, gp, tab, simprocAttr, reduceCtorEq, reduceIte]
  refine fin_stop trivial (runs_call (seriesBegun_c) rfl rfl rfl (by simp only [dstOk, Nat.reduceLT]) (by repeat (first | exact trivial | constructor)) (runs_eval tab_ok ?_))
  simp only [ev0, evA, evB, evP, fl, gp, tab, simprocAttr, reduceCtorEq, reduceIte]
  refine fin_run trivial (hK _ ?_) <;> clear hK <;> clear K
  refine qa ?_
  refine hk_cond rfl (fun hC1 => ?_) (fun hC1 => ?_)
  · cases hC1
  · (try simp only [nhs] at hC1)
    refine qh (qa (qm (qm ?_)))
    refine hk_region fun K hK => runs_eval tab_ok ?_
    simp only [ev0, evA, evB, evP, fl, gp, tab, simprocAttr, reduceCtorEq, reduceIte, ll_length]
    refine fin_run trivial (hK _ ?_) <;> clear hK <;> clear K
    refine qa ?_
    refine hk_cond rfl (fun hC2 => ?_) (fun hC2 => ?_)
    · (try simp only [nhs] at hC2)
      refine qm ?_
      refine hk_region fun K hK => runs_eval tab_ok ?_
      simp only [ev0, evA, evB, evP, fl, gp, tab, simprocAttr, reduceCtorEq, reduceIte]
      refine fin_run trivial (hK _ ?_) <;> clear hK <;> clear K
      refine qa (qk (qb ?_))
      simp only [Tryd.results4, enA, ev0, evA, evB, evP, fl, gp, tab, simprocAttr, reduceCtorEq, reduceIte]
      all_goals (rfl)
    · (try simp only [nhs] at hC2)
      omega
theorem cht_rows (T : Nat → Nat → Bool) (Z : Nat) : ∀ w ∈ cht n T Z, w.length ≤ n := fun w hw => by
  obtain ⟨i, hi, rfl⟩ := List.getElem_of_mem hw
  have hlen := cht_len n T Z
  have h1 : (cht n T Z).getD i [] = thl n (T i) := cht_get (by omega)
  have h2 : (cht n T Z)[i] = (cht n T Z).getD i [] := by simp [List.getD, List.getElem?_eq_getElem hi]
  rw [h2, h1]; exact thl_le n _
theorem lawJor_ok (h : GT n m n e) (ls : List (List Int)) (hl : ls.length ≤ 100) (hr : ∀ w ∈ ls, w.length ≤ 17592186043904) (hf : (fsp n (op m n) e ls).2.1 = 0) : FnC Tryd.prog 4 [gp n m, .list (ll ls)] (.bool true) := by
  have G := h.2.2
  have hb := h.2.1.big
  obtain ⟨ho, hm⟩ := fsp_good hf
  obtain ⟨T, Z, hC, hcomp⟩ := composition_ok h
  have hZ := hC.short
  have hlen := cht_len n T Z
  have hg := cps_fsp G hC
  obtain ⟨ho', hm'⟩ := fsp_good hg
  have hF2 := factors_ok h (cht n T Z) ho'.toFw fun w hw => Nat.le_trans (cht_rows T Z w hw) (by omega)
  have hF1 := factors_ok h ls ho.toFw hr
  have e1 : (fsp n (op m n) e ls).2 = (0, 0) := by rw [fsp_ok ho hm]
  have e2 : (fsp n (op m n) e (cht n T Z)).2 = (0, 0) := by rw [fsp_ok ho' hm']
  obtain ⟨hj, _⟩ := jordan_fsp G hf hg
  have hp := fsp_prod G hf
  have hbn := fac_bnd G hb hf
  have hrl : (fsp n (op m n) e ls).1.length ≤ 100 := by
    rw [fsp_ok ho hm]
    show (srt _).length ≤ _
    rw [srt_len, facL_len]; omega
  rw [e2, ← hj] at hF2
  rw [e1] at hF1
  generalize (fsp n (op m n) e ls).1 = r at *
  refine fnc_of tab_ok Tryd.func4 rfl (by kernel_rfl) (by rw [Tryd.ntmps4]; exact Nat.le_add_left 2 _) ?_; rw [Tryd.ntmps4]
  refine qm ?_
  refine hk_region fun K hK => runs_eval tab_ok ?_
  simp only [ev0, evA, evB, evP, fl, gp, tab, simprocAttr, reduceCtorEq, reduceIte]
  refine fin_run ?_ (hK _ ?_) <;> clear hK <;> clear K
  · (first | exact trivial | omega | (simp only [In64] at *; omega) | (simp [In64] at *; omega) | (simp_all; done) | skip)
  refine qa (qm (qm ?_))
  refine hk_region fun K hK => runs_eval tab_ok ?_
  simp only [ev0, evA, evB, evP, fl, gp, tab, simprocAttr, reduceCtorEq, reduceIte]
  refine fin_stop trivial (runs_call (seriesBegun_c) rfl rfl rfl (by simp only [dstOk, Nat.reduceLT]) (by repeat (first | exact trivial | constructor)) (runs_eval tab_ok ?_))
  simp only [ev0, evA, evB, evP, fl, gp, tab, simprocAttr, reduceCtorEq, reduceIte]
  refine fin_run trivial (hK _ ?_) <;> clear hK <;> clear K
  refine qa ?_
  refine hk_cond rfl (fun hC1 => ?_) (fun hC1 => ?_)
  · cases hC1
  · (try simp only [nhs] at hC1)
    refine qh (qa (qm (qm ?_)))
    refine hk_region fun K hK => runs_eval tab_ok ?_
    simp only [ev0, evA, evB, evP, fl, gp, tab, simprocAttr, reduceCtorEq, reduceIte, ll_length]
    refine fin_run trivial (hK _ ?_) <;> clear hK <;> clear K
    refine qa ?_
    refine hk_cond rfl (fun hC2 => ?_) (fun hC2 => ?_)
    · (try simp only [nhs] at hC2)
      omega
    · (try simp only [nhs] at hC2)
      refine qh (qa (qm ?_))
      refine hk_region fun K hK => runs_eval tab_ok ?_
      simp only [ev0, evA, evB, evP, fl, gp, tab, simprocAttr, reduceCtorEq, reduceIte]
      refine fin_stop trivial (runs_call (hF1) rfl rfl rfl (by simp only [dstOk, Nat.reduceLT]) (by repeat (first | exact trivial | constructor)) (runs_eval tab_ok ?_))
      simp only [ev0, evA, evB, evP, fl, gp, tab, simprocAttr, reduceCtorEq, reduceIte]
      refine fin_run ?_ (hK _ ?_) <;> clear hK <;> clear K
      · (first | exact trivial | omega | (simp only [In64] at *; omega) | (simp [In64] at *; omega) | (simp_all; done) | skip)
      refine qa (qm (qm ?_))
      refine hk_region fun K hK => runs_eval tab_ok ?_
      simp only [ev0, evA, evB, evP, fl, gp, tab, simprocAttr, reduceCtorEq, reduceIte]
      refine fin_run ?_ (hK _ ?_) <;> clear hK <;> clear K
      · (first | exact trivial | omega | (simp only [In64] at *; omega) | (simp [In64] at *; omega) | (simp_all; done) | skip)
      refine qa ?_
      refine hk_cond rfl (fun hC3 => ?_) (fun hC3 => ?_)
      · cases hC3
      · (try simp only [nhs] at hC3)
        refine qh (qa (qm ?_))
        refine hk_region fun K hK => runs_eval tab_ok ?_
        simp only [ev0, evA, evB, evP, fl, gp, tab, simprocAttr, reduceCtorEq, reduceIte]
        refine fin_stop trivial (runs_call (hcomp) rfl rfl rfl (by simp only [dstOk, Nat.reduceLT]) (by repeat (first | exact trivial | constructor)) (runs_eval tab_ok ?_))
        simp only [ev0, evA, evB, evP, fl, gp, tab, simprocAttr, reduceCtorEq, reduceIte]
        refine fin_run ?_ (hK _ ?_) <;> clear hK <;> clear K
        · (first | exact trivial | omega | (simp only [In64] at *; omega) | (simp [In64] at *; omega) | (simp_all; done) | skip)
        refine qa (qm ?_)
        refine hk_region fun K hK => runs_eval tab_ok ?_
        simp only [ev0, evA, evB, evP, fl, gp, tab, simprocAttr, reduceCtorEq, reduceIte]
        refine fin_stop trivial (runs_call (hF2) rfl rfl rfl (by simp only [dstOk, Nat.reduceLT]) (by repeat (first | exact trivial | constructor)) (runs_eval tab_ok ?_))
        simp only [ev0, evA, evB, evP, fl, gp, tab, simprocAttr, reduceCtorEq, reduceIte]
        refine fin_run ?_ (hK _ ?_) <;> clear hK <;> clear K
        · (first | exact trivial | omega | (simp only [In64] at *; omega) | (simp [In64] at *; omega) | (simp_all; done) | skip)
        refine qa (qm ?_)
        refine hk_region fun K hK => runs_eval tab_ok ?_
        simp only [ev0, evA, evB, evP, fl, gp, tab, simprocAttr, reduceCtorEq, reduceIte]
        refine fin_run trivial (hK _ ?_) <;> clear hK <;> clear K
        refine qa (qm (qm ?_))
        refine hk_region fun K hK => runs_eval tab_ok ?_
        simp only [ev0, evA, evB, evP, fl, gp, tab, simprocAttr, reduceCtorEq, reduceIte]
        refine fin_run trivial (hK _ ?_) <;> clear hK <;> clear K
        refine qa (ql ?_)
        refine hk_loop (ι := Nat) (fun i => ⟨69, [(2, .ptr 0 0), (5, .p (.list (il r))), (8, .ptr 1 0), (9, .p (.list (il r))), (10, .ptr 2 0), (11, .p (.int .i64 ((r.take i).foldl (· * ·) 1))), (12, .p (.int .i64 i))], [.own [.p (.int .i64 n), .p (.list (il m))], .own [.p (.int .i64 0), .p (.int .i64 0)], .own [.p (.int .i64 0), .p (.int .i64 0)]]⟩) (fun i => i ≤ r.length) (fun i => r.length - i) 0 (Nat.zero_le _) [0, 2, 3] (by simp only [leq, leA, ev0, evA, evB, evP, fl, gp, tab, simprocAttr, reduceCtorEq, reduceIte] <;> trivial) fun i hi => ?_
        obtain ⟨b1, b2⟩ := hbn i hi
        refine qm (qm ?_)
        refine hk_region fun K hK => runs_eval tab_ok ?_
        simp only [ev0, evA, evB, evP, fl, gp, tab, simprocAttr, reduceCtorEq, reduceIte, il_length]
        refine fin_run trivial (hK _ ?_) <;> clear hK <;> clear K
        refine qa ?_
        refine hk_cond rfl (fun hC4 => ?_) (fun hC4 => ?_)
        · (try simp only [nhs] at hC4)
          have hlt : i < r.length := by omega
          obtain ⟨b3, b4⟩ := hbn (i + 1) (by omega)
          have hts := take_fold hlt
          refine qh (qa (qm (ql ?_)))
          refine hk_region fun K hK => runs_eval tab_ok ?_
          simp only [ev0, evA, evB, evP, fl, gp, tab, simprocAttr, reduceCtorEq, reduceIte, il_get hlt, ← hts, il_length]
          refine fin_run ?_ (hK _ ?_) <;> clear hK <;> clear K
          · first | exact trivial | (simp only [In64]; omega)
          refine qd (qa ?_)
          refine hk_region fun K hK => runs_eval tab_ok ?_
          simp only [ev0, evA, evB, evP, fl, gp, tab, simprocAttr, reduceCtorEq, reduceIte]
          refine fin_run ?_ (hK _ ?_) <;> clear hK <;> clear K
          · (first | exact trivial | omega | (simp only [In64] at *; omega) | (simp [In64] at *; omega) | (simp_all; done) | skip)
          refine qa ?_
          refine ⟨i + 1, [0, 1, 2], by omega, by omega, ?_⟩
          simp only [leq, leA, ev0, evA, evB, evP, fl, gp, tab, simprocAttr, reduceCtorEq, reduceIte] <;> first | trivial | omega
        · (try simp only [nhs] at hC4)
          have hin : i = r.length := by omega
          rw [hin, List.take_length, hp]
          refine qj (qc (qc (qf (qa (qm ?_)))))
          refine hk_region fun K hK => runs_eval tab_ok ?_
          simp only [ev0, evA, evB, evP, fl, gp, tab, simprocAttr, reduceCtorEq, reduceIte, decide_eq_true (rfl : (n : Int) = (n : Int))]
          refine fin_stop trivial (runs_call (ints_c r r (by omega)) rfl rfl rfl (by simp only [dstOk, Nat.reduceLT]) (by repeat (first | exact trivial | constructor)) (runs_eval tab_ok ?_))
          simp only [ev0, evA, evB, evP, fl, gp, tab, simprocAttr, reduceCtorEq, reduceIte, decide_eq_true (rfl : (n : Int) = (n : Int))]
          refine fin_run ?_ (hK _ ?_) <;> clear hK <;> clear K
          · (first | exact trivial | omega | (simp only [In64] at *; omega) | (simp [In64] at *; omega) | (simp_all; done) | skip)
          refine qa (qk ?_)
          simp only [Tryd.results4, enA, ev0, evA, evB, evP, fl, gp, tab, simprocAttr, reduceCtorEq, reduceIte]
          all_goals (trace_state)
theorem lawJor_c (N : Int) (m : List Int) (ls : List (List Int)) (hm : m.length ≤ 17592186043904) (hr : ∀ w ∈ ls, w.length ≤ 17592186043904) : FnC Tryd.prog 4 [gp N m, .list (ll ls)] (.bool true) := by
  by_cases hl : ls.length ≤ 100
  · by_cases hf : (gf N m).1 = 0
    · obtain ⟨n, e, h, heI⟩ := gf_ok hf
      obtain rfl := h.1
      by_cases hg : (fsp n (op m n) e ls).2.1 = 0
      · exact lawJor_ok h ls hl hr hg
      · by_cases hw : ls.length < 1 ∨ 10 < ls.length
        · exact lawJor_bad n m ls _ _ hl hg (factors_many h ls hw (by omega))
        · exact lawJor_bad n m ls _ _ hl hg (factors_ok h ls ⟨by omega, by omega⟩ hr)
    · exact lawJor_bad N m ls [] (gf N m) hl hf (factors_no N m ls (by omega) hf)
  · exact lawJor_big N m ls hl
end
end Go.Proofs.YtjbfkdaodfdpcaaDoor

/-
  What the listed package-level variable gives a walk: a table of numbers. Conditions: none; written by a program of this repo.
-/
set_option linter.all false
namespace Go.Proofs.YtjbfkdaodfdpcaaDoor
open Go.Pv Go.ChangeShapes Go.WideShapes Go.ChangeAt Go.WideElems Go.RowKit

theorem own : ownKnob Tryd.prog.godebug = none := by kernel_rfl
theorem laidOut : laidOutB Tryd.prog = true := by kernel_rfl
theorem gG : Tryd.prog.globalNamed "math/bits.deBruijn64tab" = some 0 := by kernel_rfl
theorem tG : (Tryd.prog.globals[0]?).map (·.type) = some 145 := by kernel_rfl
theorem cG : Tryd.prog.cellsOf 5 = 1 := by kernel_rfl
/-- The door's own heap meets the condition. -/
theorem door_met (os : Os) (args : Array Value) : laidMetH Tryd.prog [("math/bits.deBruijn64tab", Rows.laid_math_bits_deBruijn64tab)] ((World.doorLaid Tryd.prog 4000 os).forCall (fun _ _ => 0) ⟨#[], args, []⟩).memory :=
  laidMetH_of_parts3 (fuel := 8) (laidMet_of_run' 8 (by kernel_rfl) (by kernel_rfl)) (by kernel_rfl) (by kernel_rfl)

def convD : DataW Unit → PV
  | .lit (.int k n) => .int k n
  | _ => .nil
def datum : List (DataW Unit) → List PV := List.map convD
theorem glob_datum : (match (Rows.laid_math_bits_deBruijn64tab : DataW Unit) with | .agg l => datum l | _ => []) = glob0 := rfl

theorem laid_ok {W : World} (h : laidMetH Tryd.prog [("math/bits.deBruijn64tab", Rows.laid_math_bits_deBruijn64tab)] W) : LaidW (fun b => b < W.heap.size) W := by
  refine ⟨fun b h => h, fun g l hg => ?_⟩
  have hg2 : g = 0 ∧ l = glob0 := by
    unfold gv at hg
    by_cases e : g = 0
    · subst e; exact ⟨rfl, (Option.some.inj hg).symm⟩
    · have : (g == 0) = false := by simpa using e
      rw [this] at hg; simp at hg
  obtain ⟨rfl, rfl⟩ := hg2
  rw [MakeChecks.laidMetH_plain _ _ _ (by kernel_rfl)] at h
  obtain ⟨ps, ⟨g0, t0, cs0, f0, p0, q0, hg0, ht0, hv0, hd0, _, _⟩, _, _⟩ := h
  obtain rfl := Option.some.inj (gG.symm.trans hg0)
  obtain rfl := Option.some.inj (tG.symm.trans ht0)
  obtain ⟨xs, m1, rfl, hx1, hlen, hn3, hel⟩ := DataW.trod_array Tryd.underlying145 hd0
  have hd1 : Rows.laid_math_bits_deBruijn64tab = DataW.agg (xs.map (·.1)) := congrArg Prod.fst hx1
  have hgl : glob0 = datum (xs.map (·.1)) := by
    rw [← glob_datum, hd1]
  have key : ∀ c (h : c < glob0.length), W.cell? ⟨0, 0 + c, none⟩ = some ((cs0[c]?).getD undef) ∧ Reads (fun b => b < W.heap.size) W glob0[c] ((cs0[c]?).getD undef) := by
    intro c hc
    have hc2 : c < 64 := Nat.lt_of_lt_of_le hc (by decide)
    have hcx : c < xs.length := by omega
    have h1 := hel c hc2
    rw [List.getElem?_eq_getElem hcx] at h1
    obtain ⟨k, e1, e2, _⟩ := DataW.trod_int Tryd.underlying5 h1
    rw [cG] at e1
    have e3 : cs0.toList[c]? = some (.int .u8 k) := by
      have := congrArg (fun l => l[0]?) e1
      simpa [List.getElem?_take, List.getElem?_drop] using this
    have e4 : cs0[c]? = some (.int .u8 k) := by simpa using e3
    have e5 : glob0[c] = .int .u8 k := by
      have : glob0[c]? = (datum (xs.map (·.1)))[c]? := by rw [hgl]
      rw [List.getElem?_eq_getElem hc] at this
      simp only [datum, List.getElem?_map, List.getElem?_eq_getElem hcx, Option.map_some, Option.some.injEq] at this
      exact this.trans (by rw [e2]; rfl)
    refine ⟨?_, ?_⟩
    · rw [e4, Nat.zero_add, World.var?_cell gG hv0 c, e4]; rfl
    · rw [e4]
      exact e5 ▸ (Reads.int .u8 k)
  refine .ptr _ _ _ (fun c => (cs0[c]?).getD undef) ?_ (fun c hc => (key c hc).1) fun c hc => (key c hc).2
  have := (key 0 (by decide)).1
  unfold World.cell? at this
  rcases Nat.lt_or_ge 0 W.heap.size with h | h
  · exact h
  · exfalso
    rw [Array.getElem?_eq_none h] at this
    simp at this
end Go.Proofs.YtjbfkdaodfdpcaaDoor
